/- Maps whose keys are strings: what a look-up, a store, a deletion come to. Over any program. The walks of contain.Plain and what it calls: it tells whether a rule is plain, and writes nothing that was there. The walks of contain's mapping.forget and mapping.lay. -/
import Derived.Test.YtlalgaioiapjmaaGreatDoorG0
import Derived.Test.YtlalgaioiapjmaaGreatDoorG1
namespace Go.Proofs.YtlalgaioiapjmaaGreatDoor.K
open Go.RowKit
set_option linter.unusedSimpArgs false

theorem bytes_beq (a b : ByteArray) : (a == b) = decide (a = b) := by
  rw [beq_toListBytes, Bool.eq_iff_iff, beq_iff_eq, decide_eq_true_eq, toList_eq_iff]
  obtain ⟨⟨x⟩⟩ := b
  rw [ByteArray.toList_eq]
/-- What the entries hold under a key. -/
def lookE : List MapEntry → ByteArray → Option Value
  | [], _ => none
  | e :: es, k => match e.key with
    | .string s => if s = k then some e.val else lookE es k
    | _ => lookE es k
def keysOk (es : List MapEntry) : Prop := (∀ e ∈ es, ∃ s, e.key = .string s) ∧ (es.map (·.key)).Nodup
def SMap (w : World) (b : Nat) (f : ByteArray → Option Value) : Prop :=
  ∃ es clock, w.heap[b]? = some (.map es clock) ∧ keysOk es.toList ∧ (∀ k, f k = lookE es.toList k) ∧ MapKept.Stamped es clock
def upd (f : ByteArray → Option Value) (k : ByteArray) (v : Option Value) : ByteArray → Option Value := fun x => if x = k then v else f x

theorem look_key : ∀ {es : List MapEntry}, (∀ e ∈ es, ∃ s, e.key = .string s) → ∀ {x : MapEntry} {k : ByteArray}, x ∈ es → x.key = .string k → lookE es k ≠ none
  | [], _, _, _, h, _ => by cases h
  | a :: es, h, x, k, hm, hk => by
    obtain ⟨s, hs⟩ := h a (by simp)
    simp only [lookE, hs]
    split
    · simp
    · rename_i hne
      rcases List.mem_cons.1 hm with rfl | hm
      · exfalso; rw [hk] at hs; cases hs; exact hne rfl
      · exact look_key (fun e he => h e (by simp [he])) hm hk
theorem findNow_none {es : List MapEntry} (h : ∀ e ∈ es, ∃ s, e.key = .string s) (k : ByteArray) (hl : lookE es k = none) (i : Nat) : Instr.findNow .string (.string k) es i = some none := by
  induction es generalizing i with
  | nil => rfl
  | cons e es ih =>
    obtain ⟨s, hs⟩ := h e (by simp)
    simp only [lookE, hs] at hl
    split at hl
    · cases hl
    · rename_i hne
      have hb : (k == s) = false := by rw [bytes_beq]; simp; exact fun e => hne e.symm
      simp only [Instr.findNow, hs, Instr.sameNow, hb]
      exact ih (fun e he => h e (by simp [he])) hl (i + 1)
theorem findNow_some {es : List MapEntry} (h : ∀ e ∈ es, ∃ s, e.key = .string s) (k : ByteArray) {v : Value} (hl : lookE es k = some v) (i : Nat) :
    ∃ j e, Instr.findNow .string (.string k) es i = some (some (i + j, v)) ∧ es[j]? = some e ∧ e.key = .string k ∧ e.val = v := by
  induction es generalizing i with
  | nil => cases hl
  | cons e es ih =>
    obtain ⟨s, hs⟩ := h e (by simp)
    simp only [lookE, hs] at hl
    split at hl
    · rename_i he
      cases hl
      have hb : (k == s) = true := by rw [bytes_beq]; simp [he]
      exact ⟨0, e, by simp only [Instr.findNow, hs, Instr.sameNow, hb]; rfl, rfl, by rw [hs, he], rfl⟩
    · rename_i hne
      have hb : (k == s) = false := by rw [bytes_beq]; simp; exact fun e => hne e.symm
      obtain ⟨j, e', h1, h2, h3, h4⟩ := ih (fun e he => h e (by simp [he])) hl (i + 1)
      refine ⟨j + 1, e', ?_, by simpa using h2, h3, h4⟩
      simp only [Instr.findNow, hs, Instr.sameNow, hb]
      rw [h1]
      congr 3
      omega
section
variable {P : Program} {w : World} {b : Nat} {f : ByteArray → Option Value} {t kt et : TypeId}
theorem run_look (hs : SMap w b f) (ht : P.underlying t = some (.map kt et)) (hk : P.underlying kt = some .string) {z : Value} (hz : (zeroValue et).run P w = .ok z w) (k : ByteArray) (c : Bool) :
    (Instr.lookup t (.map (some b)) (.string k) c).run P w = .ok (if c then .tuple #[(f k).getD z, .bool (f k).isSome] else (f k).getD z) w := by
  obtain ⟨es, clock, h1, h2, h3, h4⟩ := hs
  have hck : (Instr.checkKey es.isEmpty 10000 kt (.string k)).run P w = .ok () w := @MapKept.run_checkKey P w kt .string (.string k) hk (by exact trivial) es.isEmpty 9999
  rw [h3 k]
  cases hl : lookE es.toList k with
  | none =>
    have hf := MapKept.run_findKey (P := P) (w := w) hk (findNow_none h2.1 k hl 0)
    simp only [Instr.lookup, Sem.run_bind, run_underlying ht, Result.andThen_ok, Sem.run_pure, getObj, Sem.run, h1, hck, hf, hz]
    cases c <;> rfl
  | some v =>
    obtain ⟨j, e, hf0, _, _, _⟩ := findNow_some h2.1 k hl 0
    have hf := MapKept.run_findKey (P := P) (w := w) hk hf0
    simp only [Instr.lookup, Sem.run_bind, run_underlying ht, Result.andThen_ok, Sem.run_pure, getObj, Sem.run, h1, hck, hf]
    cases c <;> rfl

theorem eraseIdx_look {es : List MapEntry} (hk : keysOk es) {j : Nat} {e : MapEntry} {k : ByteArray} (hj : es[j]? = some e) (he : e.key = .string k) (x : ByteArray) :
    lookE (es.eraseIdx j) x = if x = k then none else lookE es x := by
  induction es generalizing j with
  | nil => simp at hj
  | cons a es ih =>
    obtain ⟨s, hs⟩ := hk.1 a (by simp)
    have hk' : keysOk es := ⟨fun e h => hk.1 e (by simp [h]), (List.nodup_cons.1 hk.2).2⟩
    cases j with
    | zero =>
      simp at hj
      subst hj
      rw [he] at hs
      cases hs
      simp only [List.eraseIdx_zero, List.tail_cons, lookE, he]
      by_cases hx : x = k
      · subst hx
        rw [if_pos rfl]
        cases hl : lookE es x with
        | none => rfl
        | some v =>
          exfalso
          obtain ⟨j, e', _, h2, h3, _⟩ := findNow_some hk'.1 x hl 0
          have hm : e'.key ∈ es.map (·.key) := List.mem_map.2 ⟨e', List.mem_of_getElem? h2, rfl⟩
          rw [h3, ← he] at hm
          exact (List.nodup_cons.1 hk.2).1 hm
      · rw [if_neg hx, if_neg (fun h => hx h.symm)]
    | succ j =>
      simp at hj
      simp only [List.eraseIdx_cons_succ, lookE, hs, ih hk' hj]
      by_cases hx : x = k
      · subst hx
        rw [if_pos rfl, if_pos rfl]
        split
        · rename_i h
          exfalso
          have hm : e.key ∈ es.map (·.key) := List.mem_map.2 ⟨e, List.mem_of_getElem? hj, rfl⟩
          rw [he, ← h, ← hs] at hm
          exact (List.nodup_cons.1 hk.2).1 hm
        · rfl
      · simp [hx]
theorem modify_look {es : List MapEntry} (hk : keysOk es) {j : Nat} {e : MapEntry} {k : ByteArray} (hj : es[j]? = some e) (he : e.key = .string k) (v : Value) (x : ByteArray) :
    lookE (es.modify j fun e => { e with key := .string k, val := v }) x = if x = k then some v else lookE es x := by
  induction es generalizing j with
  | nil => simp at hj
  | cons a es ih =>
    obtain ⟨s, hs⟩ := hk.1 a (by simp)
    have hk' : keysOk es := ⟨fun e h => hk.1 e (by simp [h]), (List.nodup_cons.1 hk.2).2⟩
    cases j with
    | zero =>
      simp at hj
      subst hj
      rw [he] at hs
      cases hs
      simp only [List.modify_zero_cons, lookE, he]
      by_cases hx : x = k
      · simp [hx]
      · simp [hx, Ne.symm hx]
    | succ j =>
      simp at hj
      simp only [List.modify_succ_cons, lookE, hs, ih hk' hj]
      by_cases hx : x = k
      · subst hx
        rw [if_pos rfl, if_pos rfl]
        split
        · rename_i h
          exfalso
          have hm : e.key ∈ es.map (·.key) := List.mem_map.2 ⟨e, List.mem_of_getElem? hj, rfl⟩
          rw [he, ← h, ← hs] at hm
          exact (List.nodup_cons.1 hk.2).1 hm
        · rfl
      · simp [hx]
theorem modify_ok {es : List MapEntry} (hk : keysOk es) {j : Nat} {e : MapEntry} {k : ByteArray} (hj : es[j]? = some e) (he : e.key = .string k) (v : Value) :
    keysOk (es.modify j fun e => { e with key := .string k, val := v }) := by
  have hm : (es.modify j fun e => { e with key := .string k, val := v }).map (·.key) = es.map (·.key) := by
    apply List.ext_getElem?
    intro i
    simp only [List.getElem?_map, List.getElem?_modify]
    by_cases hi : j = i
    · subst hi; simp [hj, he]
    · simp [hi]
  refine ⟨fun x hx => ?_, by rw [hm]; exact hk.2⟩
  have : x.key ∈ es.map (·.key) := by rw [← hm]; exact List.mem_map.2 ⟨x, hx, rfl⟩
  obtain ⟨y, hy, hyk⟩ := List.mem_map.1 this
  obtain ⟨s, hs⟩ := hk.1 y hy
  exact ⟨s, by rw [← hyk, hs]⟩
theorem push_look {es : List MapEntry} {k : ByteArray} (hl : lookE es k = none) (h : ∀ e ∈ es, ∃ s, e.key = .string s) (v : Value) (c : Nat) (x : ByteArray) :
    lookE (es ++ [{ key := .string k, val := v, born := c }]) x = if x = k then some v else lookE es x := by
  induction es with
  | nil =>
    by_cases hx : x = k
    · simp [lookE, hx]
    · simp [lookE, hx, Ne.symm hx]
  | cons a es ih =>
    obtain ⟨s, hs⟩ := h a (by simp)
    simp only [lookE, hs] at hl
    split at hl
    · cases hl
    · rename_i hne
      simp only [List.cons_append, lookE, hs, ih hl (fun e he => h e (by simp [he]))]
      by_cases hx : x = k
      · subst hx; simp [hne]
      · simp [hx]
theorem push_ok {es : List MapEntry} (hk : keysOk es) {k : ByteArray} (hl : lookE es k = none) (v : Value) (c : Nat) :
    keysOk (es ++ [{ key := .string k, val := v, born := c }]) := by
  refine ⟨fun e he => ?_, ?_⟩
  · rcases List.mem_append.1 he with h | h
    · exact hk.1 e h
    · simp at h; exact ⟨k, by rw [h]⟩
  · rw [List.map_append, List.nodup_append]
    refine ⟨hk.2, by simp, fun a ha b hb => ?_⟩
    simp at hb
    subst hb
    rintro rfl
    obtain ⟨e, he, hek⟩ := List.mem_map.1 ha
    clear ha
    have : ∀ es : List MapEntry, (∀ e ∈ es, ∃ s, e.key = .string s) → e ∈ es → lookE es k ≠ none := by
      intro es
      induction es with
      | nil => simp
      | cons a es ih =>
        intro h hm
        obtain ⟨s, hs⟩ := h a (by simp)
        simp only [lookE, hs]
        split
        · simp
        · rename_i hne
          rcases List.mem_cons.1 hm with rfl | hm
          · exfalso; rw [hek] at hs; cases hs; exact hne rfl
          · exact ih (fun e he => h e (by simp [he])) hm
    exact this es hk.1 he hl
/-- The world in which the map's block b has turned into o. -/
def setMap (w : World) (b : Nat) (o : Obj) : World := { w with heap := w.heap.setIfInBounds b o }
theorem setMap_grown (w : World) (b : Nat) (o : Obj) : w.grownBy (setMap w b o) (some b) :=
  ⟨rfl, rfl, rfl, by simp [setMap], fun k hk hne => by simp [setMap]; rw [Array.getElem?_setIfInBounds_ne (fun e => hne (by rw [e]))]⟩
theorem run_upd (hs : SMap w b f) (ht : P.underlying t = some (.map kt et)) (hk : P.underlying kt = some .string) (k : ByteArray) (v : Value) :
    ∃ o, (Instr.mapUpdate t (.map (some b)) (.string k) v).run P w = .ok () (setMap w b o) ∧ SMap (setMap w b o) b (upd f k (some v)) := by
  obtain ⟨es, clock, h1, h2, h3, h4⟩ := hs
  have hck : (Instr.checkKey false 10000 kt (.string k)).run P w = .ok () w := @MapKept.run_checkKey P w kt .string (.string k) hk (by exact trivial) false 9999
  have hb : b < w.heap.size := (Array.getElem?_eq_some_iff.1 h1).1
  cases hl : lookE es.toList k with
  | none =>
    have hf := MapKept.run_findKey (P := P) (w := w) hk (findNow_none h2.1 k hl 0)
    refine ⟨.map (es.push { key := .string k, val := v, born := clock }) (clock + 1), ?_, ?_⟩
    · simp only [Instr.mapUpdate, Sem.run_bind, run_underlying ht, Result.andThen_ok, Sem.run_pure, getObj, Sem.run, h1, hck, hf, setObj]
      rfl
    · refine ⟨_, _, by simp [setMap, hb]; first | exact ⟨rfl, rfl⟩ | rfl, ?_, fun x => ?_, MapKept.stamped_push h4 fun x hx e => look_key h2.1 hx e hl⟩
      · rw [Array.toList_push]; exact push_ok h2 hl v clock
      · rw [Array.toList_push, push_look hl h2.1, upd, h3]
  | some u =>
    obtain ⟨j, e, hf0, hj, hek, _⟩ := findNow_some h2.1 k hl 0
    have hf := MapKept.run_findKey (P := P) (w := w) hk hf0
    have hj' : es[0 + j]? = some e := by simpa using hj
    have hbeq : (k == k) = true := by rw [bytes_beq]; simp
    refine ⟨.map (es.modify (0 + j) fun e => { e with key := .string k, val := v }) clock, ?_, ?_⟩
    · simp only [Instr.mapUpdate, Sem.run_bind, run_underlying ht, Result.andThen_ok, Sem.run_pure, getObj, Sem.run, h1, hck, hf, setObj, hj', Option.map_some, Option.getD_some, hek, Instr.keyThatStays, Instr.sameBits, hbeq, if_true]
      rfl
    · have ST : MapKept.Stamped (es.modify (0 + j) fun e => { e with key := .string k, val := v }) clock := MapKept.stamped_modify h4 (0 + j) (fun e => { e with key := .string k, val := v }) (fun _ _ => rfl) fun e' _ he' => by
        rw [hj'] at he'
        cases he'
        exact hek.symm
      refine ⟨_, _, by simp [setMap, hb]; first | exact ⟨rfl, rfl⟩ | rfl, ?_, fun x => ?_, by first | exact ST | simpa using ST⟩
      · rw [Array.toList_modify]; exact modify_ok h2 hj hek v
      · rw [Array.toList_modify, modify_look h2 hj hek, upd, h3]
theorem run_del (hs : SMap w b f) (ht : P.underlying t = some (.map kt et)) (hk : P.underlying kt = some .string) (k : ByteArray) (ty : TypeId) :
    ∃ o, (Builtin.delete_ #[t, kt] ty #[.map (some b), .string k]).run P w = .ok (.tuple #[]) (setMap w b o) ∧ SMap (setMap w b o) b (upd f k none) := by
  obtain ⟨es, clock, h1, h2, h3, h4⟩ := hs
  have hck : (Instr.checkKey es.isEmpty 10000 kt (.string k)).run P w = .ok () w := @MapKept.run_checkKey P w kt .string (.string k) hk (by exact trivial) es.isEmpty 9999
  have hb : b < w.heap.size := (Array.getElem?_eq_some_iff.1 h1).1
  cases hl : lookE es.toList k with
  | none =>
    have hf := MapKept.run_findKey (P := P) (w := w) hk (findNow_none h2.1 k hl 0)
    refine ⟨.map es clock, ?_, ?_⟩
    · simp [Builtin.delete_, run_underlying ht, getObj, Sem.run, h1, hck, hf, setObj]
      rfl
    · refine ⟨es, clock, by simp [setMap, hb], h2, fun x => ?_, h4⟩
      rw [upd, h3]
      by_cases hx : x = k
      · rw [if_pos hx, hx, hl]
      · rw [if_neg hx]
  | some u =>
    obtain ⟨j, e, hf0, hj, hek, _⟩ := findNow_some h2.1 k hl 0
    have hf := MapKept.run_findKey (P := P) (w := w) hk hf0
    refine ⟨.map (es.eraseIdxIfInBounds (0 + j)) clock, ?_, ?_⟩
    · simp [Builtin.delete_, run_underlying ht, getObj, Sem.run, h1, hck, hf, setObj]
      rfl
    · have hjlt : j < es.size := by have := (List.getElem?_eq_some_iff.1 hj).1; simpa using this
      have hte : (es.eraseIdxIfInBounds j).toList = es.toList.eraseIdx j := by
        simp [Array.eraseIdxIfInBounds, hjlt]
      refine ⟨_, _, by simp [setMap, hb]; first | exact ⟨rfl, rfl⟩ | rfl, ?_, fun x => ?_, MapKept.stamped_erase h4 _⟩
      · rw [hte]
        refine ⟨fun e he => h2.1 e (List.mem_of_mem_eraseIdx he), ?_⟩
        exact h2.2.sublist ((List.eraseIdx_sublist _ _).map _)
      · rw [hte, eraseIdx_look h2 hj hek, upd, h3]
theorem SMap.ext {w' : World} (hs : SMap w b f) (h : Ext w w') : SMap w' b f := by
  obtain ⟨es, clock, h1, h2, h3⟩ := hs
  exact ⟨es, clock, by rw [h.block b (Array.getElem?_eq_some_iff.1 h1).1]; exact h1, h2, h3⟩
theorem SMap.lt (hs : SMap w b f) : b < w.heap.size := by
  obtain ⟨es, clock, h1, h2, h3⟩ := hs
  exact (Array.getElem?_eq_some_iff.1 h1).1
theorem SMap.made (w : World) : SMap (w.alloc (.map #[] 0)) w.heap.size (fun _ => none) :=
  ⟨#[], 0, heap_alloc_new w _, ⟨by simp, by simp⟩, fun _ => rfl, MapKept.stamped_empty _⟩
/-- Another block's cells stand when the map turns. -/
theorem setMap_cell {o : Obj} (hs : SMap w b f) (p : Addr) {v : Value} (hp : w.cell? p = some v) : (setMap w b o).cell? p = some v := by
  obtain ⟨es, clock, h1, _, _⟩ := hs
  have hne : p.block ≠ b := by
    intro e
    rw [← e] at h1
    simp [World.cell?, h1] at hp
  rw [← hp]
  exact World.cell?_of_block (by simp [setMap]; rw [Array.getElem?_setIfInBounds_ne (fun e => hne e.symm)])
/-- What lies below the map's block stands when the map turns. -/
theorem setMap_below {o : Obj} {B : Nat} (hB : B ≤ b) : Below B w (setMap w b o) :=
  ⟨rfl, rfl, rfl, by simp [setMap], fun k hk => by simp [setMap]; rw [Array.getElem?_setIfInBounds_ne (by omega)]⟩
end
end Go.Proofs.YtlalgaioiapjmaaGreatDoor.K
namespace Go.Proofs.YtlalgaioiapjmaaGreatDoor.K
open Go.ChangeShapes Go.WideShapes Go.ChangeAt Go.RowKit
/-- The map that says true of these names. -/
def stm (vs : List ByteArray) : ByteArray → Option Value := fun k => if k ∈ vs then some (.bool true) else none
theorem stm_upd (vs : List ByteArray) (k : ByteArray) : upd (stm vs) k (some (.bool true)) = stm (vs ++ [k]) := by
  funext x
  by_cases h : x = k <;> by_cases h2 : x ∈ vs <;> simp [upd, stm, h, h2]
theorem zero_bool (w : World) : (zeroValue 4).run Tryz.prog w = .ok (.bool false) w := by kernel_rfl
theorem stm_get (vs : List ByteArray) (k : ByteArray) : (stm vs k).getD (.bool false) = .bool (decide (k ∈ vs)) := by
  by_cases h : k ∈ vs <;> simp [stm, h]
theorem c_bad (t : Term) (vs : List ByteArray) (pb : Addr) (mb : Nat) (w : World) (hc : w.cell? pb = some (.map (some mb))) (hm : SMap w mb (stm vs)) :
    Calls Tryz.prog 75 #[.agg #[.int .i64 t.kind, .string t.text], .pointer (some pb)] w fun e w' => e = .returned (.bool (badT vs t)) ∧ Ext w w' := by
  have hl := run_look (P := Tryz.prog) (t := 70) (hm.ext (ext_alloc (Below.refl _ _) (.cells #[.int .i64 t.kind, .string t.text] 42))) Tryz.underlying70 Tryz.underlying9 (zero_bool _) t.text false
  simp only [stm_get, Bool.false_eq_true, if_false] at hl
  have hc' : (w.alloc (.cells #[.int .i64 t.kind, .string t.text] 42)).cell? pb = some (.map (some mb)) := keep (ext_alloc (Below.refl _ _) _) hc
  obtain ⟨b1, e1⟩ : ∃ b, (t.kind != 3) = b := ⟨_, rfl⟩
  obtain ⟨b2, e2⟩ : ∃ b, (t.kind == 1) = b := ⟨_, rfl⟩
  obtain ⟨b3, e3⟩ : ∃ b, decide (t.text ∈ vs) = b := ⟨_, rfl⟩
  have fin : Hid (badT vs t = (b1 && !(b2 && b3))) := by
    show _ = _
    subst e1 e2 e3
    simp [badT, Bool.beq_eq_decide_eq]
    try grind
  rw [e3] at hl
  clear e3 hm hc
  cases b1 <;> cases b2
  all_goals
    go_enter Tryz.func75, Tryz.ntmps75
    go_wp2
    go_ret
    refine ⟨ret_bool ?_, ext_alloc (Below.refl _ _) _⟩
    rw [fin.out]
    simp
def IdxInv (ts : List Term) (vs : List ByteArray) (n : Nat) (W : World) (i : Value) (wr : World) : Prop :=
  ∃ k : Nat, k ≤ n ∧ i = .int .i64 k ∧ Ext W wr ∧ ts.any (badT vs) = (ts.drop k).any (badT vs)
def IdxPost (b : Bool) (w : World) (e : Ending) (w' : World) : Prop := ∃ i : Int, e = .returned (.int .i64 i) ∧ decide (0 ≤ i) = b ∧ Ext w w'
theorem c_IndexFunc (ts : List Term) (a : Option Addr) (n cap : Nat) (vs : List ByteArray) (pb : Addr) (mb : Nat) (w : World) (ht : TermsAt w a n ts) (hc : w.cell? pb = some (.map (some mb))) (hm : SMap w mb (stm vs)) :
    Calls Tryz.prog 102 #[.slice a n cap, .func (.func 75) #[] #[.pointer (some pb)]] w (IdxPost (ts.any (badT vs)) w) := by
  have hn := ht.1
  have HL := Lib.hid ht.2.1
  have HT := Lib.hid ht
  have HC := Lib.hid hc
  have HM := Lib.hid hm
  clear ht hc hm
  go_enter Tryz.func102, Tryz.ntmps102
  go_wp2
  go_loopw [8] (fun i wr => IdxInv ts vs n w i wr) (fun i _ => n - (intOf i).toNat)
  case atStart => exact ⟨0, by omega, rfl, Below.refl _ _, by simp⟩
  case round =>
    obtain ⟨k, hk, rfl, hb, hq⟩ := hrel
    have HQ := Lib.hid hq
    clear hq
    by_cases hlt : k < n
    · obtain ⟨t, bt, off, hx, rfl, hc1, hc2, hc3⟩ := (HT.out.keep hb).2.at hlt
      have HX := Lib.hid (drop_at hx)
      clear hx
      go_wp2_with (go_at_call 75; (with_reducible refine (c_bad t vs pb mb _ (keep hb HC.out) (HM.out.ext hb)).mono ?_); rintro e w2 ⟨rfl, hb2⟩)
      · go_ret
        refine ⟨_, rfl, ?_, ext_trans hb hb2⟩
        rw [HQ.out, HX.out]
        simp_all
      · go_roundw
        case rel => exact ⟨k + 1, by omega, by go_num, ext_trans hb hb2, by rw [HQ.out, HX.out]; simp_all⟩
        case measure => simp [intOf]; omega
    · go_wp2
      go_ret
      refine ⟨_, rfl, ?_, hb⟩
      rw [HQ.out, List.drop_of_length_le (by have := HL.out; omega)]
      rfl
theorem c_ContainsFunc (ts : List Term) (a : Option Addr) (n cap : Nat) (vs : List ByteArray) (pb : Addr) (mb : Nat) (w : World) (ht : TermsAt w a n ts) (hc : w.cell? pb = some (.map (some mb))) (hm : SMap w mb (stm vs)) :
    Calls Tryz.prog 67 #[.slice a n cap, .func (.func 75) #[] #[.pointer (some pb)]] w fun e w' => e = .returned (.bool (ts.any (badT vs))) ∧ Ext w w' := by
  go_enter Tryz.func67, Tryz.ntmps67
  go_wp2_with (go_at_call 102; (with_reducible refine (c_IndexFunc ts _ _ _ vs pb mb _ ht hc hm).mono ?_); rintro e w2 ⟨i, rfl, hi, hb2⟩)
  go_ret
  exact ⟨rfl, hb2⟩
theorem gb_trans {a b c : World} {row : Option Nat} (h : a.grownBy b row) (k : b.grownBy c row) : a.grownBy c row :=
  ⟨k.os.trans h.os, k.tape.trans h.tape, k.output.trans h.output, Nat.le_trans h.size k.size, fun i hi hne => (k.block i (Nat.lt_of_lt_of_le hi h.size) hne).trans (h.block i hi hne)⟩
theorem gb_refl (a : World) (row : Option Nat) : a.grownBy a row := ⟨rfl, rfl, rfl, Nat.le_refl _, fun _ _ _ => rfl⟩
/-- w0: when the call began; W: when its map had been made in block mb; wr: now. -/
structure MapSt (w0 W wr : World) (mb : Nat) (f : ByteArray → Option Value) : Prop where
  old : Ext w0 wr
  beside : W.grownBy wr (some mb)
  map : SMap wr mb f
theorem MapSt.alloc {w0 W wr : World} {mb : Nat} {f : ByteArray → Option Value} (h : MapSt w0 W wr mb f) (o : Obj) : MapSt w0 W (wr.alloc o) mb f :=
  ⟨ext_alloc h.old _, gb_trans h.beside (World.grownBy_alloc _ _ _), h.map.ext (ext_alloc (Below.refl _ _) _)⟩
theorem MapSt.grow {w0 W wr w2 : World} {mb : Nat} {f : ByteArray → Option Value} (h : MapSt w0 W wr mb f) (k : Ext wr w2) : MapSt w0 W w2 mb f :=
  ⟨ext_trans h.old k, gb_trans h.beside (gb_of_ext k _), h.map.ext k⟩
theorem MapSt.turn {w0 W wr : World} {mb : Nat} {f g : ByteArray → Option Value} {o : Obj} (h : MapSt w0 W wr mb f) (hm : w0.heap.size ≤ mb) (hg : SMap (setMap wr mb o) mb g) : MapSt w0 W (setMap wr mb o) mb g :=
  ⟨h.old.trans (setMap_below hm), gb_trans h.beside (setMap_grown _ _ _), hg⟩
theorem MapSt.cell {w0 W wr : World} {mb : Nat} {f : ByteArray → Option Value} (h : MapSt w0 W wr mb f) {p : Addr} {v : Value} (hp : W.cell? p = some v) (hne : p.block ≠ mb) : wr.cell? p = some v :=
  h.beside.cell hp (fun e => hne (Option.some.inj e))
def PlainOut (ls : List Lit) (n : Nat) (w0 W : World) (mb : Nat) (i : Value) (wr : World) : Prop :=
  ∃ k : Nat, k ≤ n ∧ i = .int .i64 k ∧ MapSt w0 W wr mb (stm (bodyVars (ls.take k))) ∧ (ls.take k).all (fun l => decide (l.kind = 1)) = true
def PlainIn (ts : List Term) (n : Nat) (vs : List ByteArray) (w0 W : World) (mb : Nat) (i : Value) (wr : World) : Prop :=
  ∃ k : Nat, k ≤ n ∧ i = .int .i64 k ∧ MapSt w0 W wr mb (stm (vs ++ termVars (ts.take k)))
theorem plain_lit {r : Rule} {k : Nat} {l : Lit} (h : r.body[k]? = some l) (hk : (l.kind != 1) = true) : plain r = false := by
  have hm := List.mem_of_getElem? h
  have : r.body.all (fun l => decide (l.kind = 1)) = false := by
    rw [List.all_eq_false]
    exact ⟨l, hm, by simpa using hk⟩
  simp [plain, this]
theorem termVars_snoc (ts : List Term) (t : Term) : termVars (ts ++ [t]) = termVars ts ++ (if t.kind = 1 then [t.text] else []) := by
  by_cases h : t.kind = 1 <;> simp [termVars, h]
theorem c_Plain (r : Rule) (ah : Option Addr) (nh ch : Nat) (ab : Option Addr) (nb cb : Nat) (w : World) (hr : RuleV w r ah nh ch ab nb cb) :
    Calls Tryz.prog 43 #[.agg #[.string r.head.pred, .slice ah nh ch, .slice ab nb cb]] w fun e w' => e = .returned (.bool (plain r)) ∧ Ext w w' := by
  have hn := hr.body.1
  have HL := Lib.hid hr.body.2.1
  have HR := Lib.hid hr
  clear hr
  have hmm := @run_makeMap Tryz.prog
  obtain ⟨b1, e1⟩ : ∃ b, (mayRule r != 0) = b := ⟨_, rfl⟩
  cases b1 with
  | true =>
    go_enter Tryz.func43, Tryz.ntmps43
    go_wp2_with (go_at_call 74; (with_reducible refine (c_MayRule r _ _ _ _ _ _ _ (HR.out.keep (ext_alloc (Below.refl _ _) _))).mono ?_); rintro e w1 ⟨rfl, hb⟩)
    go_ret
    refine ⟨ret_bool ?_, ext_after hb (ext_alloc (Below.refl _ _) _)⟩
    have : mayRule r ≠ 0 := by simpa using e1
    simp [plain, this]
  | false =>
    go_enter Tryz.func43, Tryz.ntmps43
    go_wp2_with (go_at_call 74; (with_reducible refine (c_MayRule r _ _ _ _ _ _ _ (HR.out.keep (ext_alloc (Below.refl _ _) _))).mono ?_); rintro e w1 ⟨rfl, hb⟩; have d0 : w1.cell? ⟨w.heap.size, 0, none⟩ = some (.string r.head.pred) := keep hb (by go_simp); have d1 : w1.cell? ⟨w.heap.size, 1, none⟩ = some (.slice ah nh ch) := keep hb (by go_simp); have d2 : w1.cell? ⟨w.heap.size, 2, none⟩ = some (.slice ab nb cb) := keep hb (by go_simp); have hz : w.heap.size < w1.heap.size := World.block_lt_of_cell? _ _ d0)
    refine wp_gen (fun W hW => ?_)
    have hb1 : Ext w w1 := ext_after hb (ext_alloc (Below.refl _ _) _)
    have hm0 : w.heap.size ≤ w1.heap.size := hb1.size
    have g0 : MapSt w W W w1.heap.size (stm (bodyVars [])) := by
      refine ⟨?_, gb_refl _ _, ?_⟩
      · rw [hW]; exact ext_trans hb1 (ext_alloc (ext_alloc (Below.refl _ _) _) _)
      · rw [hW]; exact (SMap.made w1).ext (ext_alloc (Below.refl _ _) _)
    have x1 : W.cell? ⟨w.heap.size, 1, none⟩ = some (.slice ah nh ch) := by rw [hW]; exact keep (ext_alloc (ext_alloc (Below.refl _ _) _) _) d1
    have x3 : W.cell? ⟨w1.heap.size + 1, 0, none⟩ = some (.map (some w1.heap.size)) := by rw [hW]; go_simp
    obtain ⟨mb, hmb⟩ : ∃ mb, mb = w1.heap.size := ⟨_, rfl⟩
    rw [← hmb] at g0 x3 hm0 hz ⊢
    clear hW hmb hb d0 d1 d2 hmm
    go_loopw [15] (fun i wr => PlainOut r.body nb w W mb i wr) (fun i _ => nb - (intOf i).toNat)
    case atStart => exact ⟨0, by omega, rfl, by simpa [bodyVars] using g0, rfl⟩
    case round =>
      obtain ⟨k, hk, rfl, hst, hq⟩ := hrel
      have y1 := hst.cell x1 (by simp; omega)
      have y3 := hst.cell x3 (by simp)
      have HQ := Lib.hid hq
      have HS := Lib.hid hst
      clear hq hst
      by_cases hlt : k < nb
      · obtain ⟨l, bt, off, hx, rfl, a, n, cap, h0, h1, h2, h3, h4, h5, h6, h7, ht, hcap, hp, hl, hr⟩ := (HR.out.body).2.at hlt
        have HX := Lib.hid hx
        have g0 := keep HS.out.old h0
        have g1 := keep HS.out.old h1
        have g2 := keep HS.out.old h2
        have g3 := keep HS.out.old h3
        have g4 := keep HS.out.old h4
        have g5 := keep HS.out.old h5
        have g6 := keep HS.out.old h6
        have g7 := keep HS.out.old h7
        have hnt := ht.1
        have HLT := Lib.hid ht.2.1
        have HT := Lib.hid ht
        clear hx h0 h1 h2 h3 h4 h5 h6 h7 ht
        obtain ⟨bk, ek⟩ : ∃ b, (l.kind != 1) = b := ⟨_, rfl⟩
        cases bk with
        | true =>
          go_wp2
          go_ret
          exact ⟨ret_bool (plain_lit HX.out ek).symm, ext_alloc HS.out.old _⟩
        | false =>
          go_wp2
          refine wp_gen (fun Wi hWi => ?_)
          have hin : MapSt w W Wi mb (stm (bodyVars (r.body.take k))) := by rw [hWi]; exact HS.out.alloc _
          clear hWi g0 g1 g2 g3 g4 g5 g6 g7 y1 y3
          go_loopw [26] (fun i wj => PlainIn l.atom.terms n (bodyVars (r.body.take k)) w W mb i wj) (fun i _ => n - (intOf i).toNat)
          case atStart => exact ⟨0, by omega, rfl, by simpa [termVars] using hin⟩
          case round =>
            obtain ⟨j, hj, rfl, hsj⟩ := hrel
            have y3 := hsj.cell x3 (by simp)
            have HJ := Lib.hid hsj
            clear hsj
            by_cases hjt : j < n
            · obtain ⟨t, bt2, off2, hx2, rfl, hc1, hc2, hc3⟩ := (HT.out.keep HJ.out.old).2.at hjt
              have HX2 := Lib.hid hx2
              clear hx2
              obtain ⟨bv, ev⟩ : ∃ b, (t.kind == 1) = b := ⟨_, rfl⟩
              have z3 : (wr.alloc (.cells #[.int .i64 t.kind, .string t.text] 42)).cell? ⟨mb + 1, 0, none⟩ = some (.map (some mb)) := keep (ext_alloc (Below.refl _ _) _) y3
              cases bv with
              | true =>
                obtain ⟨o, hrun, hsm⟩ := run_upd (P := Tryz.prog) (t := 70) (HJ.out.alloc (.cells #[.int .i64 t.kind, .string t.text] 42)).map Tryz.underlying70 Tryz.underlying9 t.text (.bool true)
                have hts : MapSt w W (setMap (wr.alloc (.cells #[.int .i64 t.kind, .string t.text] 42)) mb o) mb (stm (bodyVars (r.body.take k) ++ termVars (l.atom.terms.take (j + 1)))) := by
                  rw [take_at HX2.out, termVars_snoc, if_pos (by simpa using ev), ← List.append_assoc, ← stm_upd]
                  exact (HJ.out.alloc _).turn hm0 hsm
                clear hsm
                go_wp2
                go_roundw
                case rel => exact ⟨j + 1, by omega, by go_num, hts⟩
                case measure => simp [intOf]; omega
              | false =>
                go_wp2
                go_roundw
                case rel => exact ⟨j + 1, by omega, by go_num, by rw [take_at HX2.out, termVars_snoc, if_neg (by simpa using ev), List.append_nil]; exact HJ.out.alloc _⟩
                case measure => simp [intOf]; omega
            · go_wp2
              go_roundw
              case rel => exact ⟨k + 1, by omega, by go_num, by
                have e : l.atom.terms.take j = l.atom.terms := List.take_of_length_le (by have := HLT.out; omega)
                rw [take_at HX.out]
                have h := HJ.out
                rw [e] at h
                simpa [bodyVars] using h, by rw [take_at HX.out, List.all_append, HQ.out]; simpa using ek⟩
              case measure => simp [intOf]; omega
      · go_wp2_with (go_at_call 67; (with_reducible refine (c_ContainsFunc r.head.terms _ _ _ _ _ mb _ (HR.out.terms.keep HS.out.old) y3 HS.out.map).mono ?_); rintro e w2 ⟨rfl, hb2⟩)
        go_ret
        refine ⟨ret_bool ?_, ext_trans HS.out.old hb2⟩
        have hlen := HL.out
        have h1 : r.body.take k = r.body := List.take_of_length_le (by omega)
        have h2 := HQ.out
        rw [h1] at h2 ⊢
        have h3 : mayRule r = 0 := by simpa using e1
        simp [plain, h2, h3]
end Go.Proofs.YtlalgaioiapjmaaGreatDoor.K
namespace Go.Proofs.YtlalgaioiapjmaaGreatDoor.K
open Go.ChangeShapes Go.WideShapes Go.ChangeAt Go.RowKit
def StrsAt (w : World) (a : Option Addr) (n : Nat) (ss : List ByteArray) : Prop :=
  n ≤ 8796093022208 ∧ ss.length = n ∧ ∀ i s, ss[i]? = some s → ∃ b off, a = some ⟨b, off, none⟩ ∧ w.cell? ⟨b, off + i, none⟩ = some (.string s)
theorem StrsAt.at {w : World} {a : Option Addr} {n : Nat} {ss : List ByteArray} (h : StrsAt w a n ss) {i : Nat} (hi : i < n) :
    ∃ s b off, ss[i]? = some s ∧ a = some ⟨b, off, none⟩ ∧ w.cell? ⟨b, off + i, none⟩ = some (.string s) := by
  have hi' : i < ss.length := by rw [h.2.1]; exact hi
  obtain ⟨b, off, h1, h2⟩ := h.2.2 i ss[i] (List.getElem?_eq_getElem hi')
  exact ⟨ss[i], b, off, List.getElem?_eq_getElem hi', h1, h2⟩
theorem StrsAt.keep {W w : World} (hb : Ext W w) {a : Option Addr} {n : Nat} {ss : List ByteArray} (h : StrsAt W a n ss) : StrsAt w a n ss :=
  ⟨h.1, h.2.1, fun i s hs => let ⟨b, off, h1, h2⟩ := h.2.2 i s hs; ⟨b, off, h1, YtlalgaioiapjmaaGreatDoor.keep hb h2⟩⟩
theorem smap_ne {w : World} {mb : Nat} {f : ByteArray → Option Value} (h : SMap w mb f) {p : Addr} {v : Value} (hp : w.cell? p = some v) : p.block ≠ mb := by
  intro e
  obtain ⟨es, clock, h1, _⟩ := h
  rw [← e] at h1
  simp [World.cell?, h1] at hp
def without (f : ByteArray → Option Value) (ss : List ByteArray) : ByteArray → Option Value := fun x => if x ∈ ss then none else f x
theorem without_snoc (f : ByteArray → Option Value) (ss : List ByteArray) (s : ByteArray) : upd (without f ss) s none = without f (ss ++ [s]) := by
  funext x
  by_cases h : x = s <;> by_cases h2 : x ∈ ss <;> simp [upd, without, h, h2]
def ForgetInv (f : ByteArray → Option Value) (ss : List ByteArray) (n : Nat) (w : World) (mb : Nat) (i : Value) (wr : World) : Prop :=
  ∃ k : Nat, k ≤ n ∧ i = .int .i64 k ∧ w.grownBy wr (some mb) ∧ SMap wr mb (without f (ss.take k))
theorem c_forget (f : ByteArray → Option Value) (ss : List ByteArray) (a : Option Addr) (n cap mb : Nat) (w : World) (hm : SMap w mb f) (hs : StrsAt w a n ss) :
    Calls Tryz.prog 140 #[.map (some mb), .slice a n cap] w fun e w' => e = .returned (.tuple #[]) ∧ w.grownBy w' (some mb) ∧ SMap w' mb (without f ss) := by
  have hn := hs.1
  have HL := Lib.hid hs.2.1
  have HS := Lib.hid hs
  have HM := Lib.hid hm
  clear hs hm
  go_enter Tryz.func140, Tryz.ntmps140
  go_wp2
  go_loopw [8] (fun i wr => ForgetInv f ss n w mb i wr) (fun i _ => n - (intOf i).toNat)
  case atStart => exact ⟨0, by omega, rfl, gb_refl _ _, by have e : without f [] = f := by funext x; simp [without]
                                                           rw [List.take_zero, e]; exact HM.out⟩
  case round =>
    obtain ⟨k, hk, rfl, hg, hsm⟩ := hrel
    by_cases hlt : k < n
    · obtain ⟨s, b, off, hx, rfl, hc⟩ := HS.out.at hlt
      have hc' := hg.cell hc (fun e => smap_ne HM.out hc (Option.some.inj e))
      obtain ⟨o, hrun, hsm'⟩ := run_del (P := Tryz.prog) (t := 198) hsm Tryz.underlying198 Tryz.underlying9 s 0
      rw [without_snoc, ← take_at hx] at hsm'
      have HG := Lib.hid (gb_trans hg (setMap_grown wr mb o))
      have HS' := Lib.hid hsm'
      clear hsm' hx hg hsm hc
      go_wp2
      go_roundw
      case rel => exact ⟨k + 1, by omega, by go_num, HG.out, HS'.out⟩
      case measure => simp [intOf]; omega
    · go_wp2
      go_end0
      have e : ss.take k = ss := List.take_of_length_le (by have := HL.out; omega)
      rw [e] at hsm
      exact ⟨rfl, hg, hsm⟩

def thingV (x : Thing) : Value := .agg #[.int .i64 x.t.kind, .string x.t.text, .int .i64 x.literal, .int .i64 x.place]
def fv (m : TMap) : ByteArray → Option Value := fun k => (m k).map thingV
theorem fv_upd (m : TMap) (k : ByteArray) (x : Thing) : upd (fv m) k (some (thingV x)) = fv (updT m k x) := by
  funext y
  by_cases h : y = k <;> simp [upd, fv, updT, h]
def thingEq (x y : Thing) : Bool := decide (x = y)
theorem eql_thing (x y : Thing) (w : World) : (binOp .eql 221 (.agg #[.int .i64 x.t.kind, .string x.t.text, .int .i64 x.literal, .int .i64 x.place]) (.agg #[.int .i64 y.t.kind, .string y.t.text, .int .i64 y.literal, .int .i64 y.place])).run Tryz.prog w = .ok (.bool (thingEq x y)) w := by
  obtain ⟨⟨k, s⟩, l, p⟩ := x
  obtain ⟨⟨k', s'⟩, l', p'⟩ := y
  have e := toList_eq_iff s s'.toList
  have e2 : (⟨s'.toList.toArray⟩ : ByteArray) = s' := ((toList_eq_iff s' s'.toList).1 rfl).symm
  rw [e2] at e
  simp only [go_sem]
  simp [go_sem]
  by_cases h : k = k' <;> by_cases h2 : s = s' <;> by_cases h3 : l = l' <;> by_cases h4 : p = p' <;> simp [thingEq, h, h2, h3, h4, e]
theorem TermsAt.gb {w wr : World} {a : Option Addr} {n mb : Nat} {ts : List Term} {f : ByteArray → Option Value} (h : TermsAt w a n ts) (hg : w.grownBy wr (some mb)) (hm : SMap w mb f) : TermsAt wr a n ts :=
  ⟨h.1, h.2.keep fun _ _ _ hx => ⟨hg.cell hx.1 (fun e => smap_ne hm hx.1 (Option.some.inj e)), hg.cell hx.2.1 (fun e => smap_ne hm hx.2.1 (Option.some.inj e)), hx.2.2⟩⟩
/-- What lay answers, and what it leaves. -/
def LayPost (m : TMap) (a onto : Atom) (lit : Int) (mb : Nat) (w : World) (e : Ending) (w' : World) : Prop :=
  w.grownBy w' (some mb) ∧
  match lay m a onto lit with
  | none => e = .returned (.tuple #[.slice none 0 0, .bool false]) ∧ SMap w' mb (fv m)
  | some (m', fr) => ∃ v, e = .returned (.tuple #[v, .bool true]) ∧ SMap w' mb (fv m') ∧ w'.ownsRow w.heap.size 9 1 v fr.length (fr.map Value.string)
structure LaySt (m0 : TMap) (W : World) (mb : Nat) (m : TMap) (fr : List ByteArray) (v : Value) (wr : World) : Prop where
  beside : W.grownBy wr (some mb)
  map : SMap wr mb (fv m)
  own : wr.ownsRow W.heap.size 9 1 v fr.length (fr.map Value.string)
  fresh : ∀ x ∈ fr, m0 x = none
  rest : ∀ x, x ∉ fr → m x = m0 x
def LayInv (m0 : TMap) (ts os : List Term) (lit : Int) (n : Nat) (W : World) (mb : Nat) (v i : Value) (wr : World) : Prop :=
  ∃ (k : Nat) (m : TMap) (fr : List ByteArray), k ≤ n ∧ i = .int .i64 k ∧ fr.length ≤ k ∧ LaySt m0 W mb m fr v wr ∧ layGo lit ts os 0 m0 [] = layGo lit (ts.drop k) (os.drop k) k m fr
theorem LayPost.none {m : TMap} {a o : Atom} {lit : Int} {mb : Nat} {w w' : World} (h : lay m a o lit = none) (hg : w.grownBy w' (some mb)) (hs : SMap w' mb (fv m)) :
    LayPost m a o lit mb w (.returned (.tuple #[.slice Option.none 0 0, .bool false])) w' := by
  refine ⟨hg, ?_⟩
  rw [h]
  exact ⟨rfl, hs⟩
theorem LayPost.some {m m' : TMap} {fr : List ByteArray} {a o : Atom} {lit : Int} {mb : Nat} {w w' : World} {v : Value} (h : lay m a o lit = some (m', fr)) (hg : w.grownBy w' (some mb)) (hs : SMap w' mb (fv m')) (ho : w'.ownsRow w.heap.size 9 1 v fr.length (fr.map Value.string)) :
    LayPost m a o lit mb w (.returned (.tuple #[v, .bool true])) w' := by
  refine ⟨hg, ?_⟩
  rw [h]
  exact ⟨v, rfl, hs, ho⟩
theorem own_strs {w : World} {base n : Nat} {v : Value} {fr : List ByteArray} (h : w.ownsRow base 9 1 v n (fr.map Value.string)) (hn : n ≤ 8796093022208) : ∃ a cap, v = .slice a n cap ∧ StrsAt w a n fr := by
  have hl : fr.length = n := by have := h.1; simpa using this
  rcases h.2 with ⟨rfl, rfl⟩ | ⟨g, cap, cur, rfl, hb, hg, hnc, hcm, hcs, htk⟩
  · obtain rfl : fr = [] := List.eq_nil_of_length_eq_zero hl
    exact ⟨none, 0, rfl, by omega, rfl, by simp⟩
  · refine ⟨_, cap, rfl, hn, hl, fun i s hs => ⟨g, 0, rfl, ?_⟩⟩
    have := h.cells (g := g) rfl i (.string s) (by simp [hs])
    rw [Addr.add_lit] at this
    exact this
theorem gb_own {W w w' : World} {mb : Nat} {v : Value} (h : W.grownBy w (some mb)) (k : w.grownBy w' v.ownBlock) (ho : ∀ g, v.ownBlock = some g → W.heap.size ≤ g) : W.grownBy w' (some mb) :=
  ⟨k.os.trans h.os, k.tape.trans h.tape, k.output.trans h.output, Nat.le_trans h.size k.size, fun i hi hne => (k.block i (Nat.lt_of_lt_of_le hi h.size) (fun e => by have := ho i e.symm; omega)).trans (h.block i hi hne)⟩
theorem smap_gb {w w' : World} {mb : Nat} {f : ByteArray → Option Value} {row : Option Nat} (h : SMap w mb f) (k : w.grownBy w' row) (hne : some mb ≠ row) : SMap w' mb f := by
  obtain ⟨es, clock, h1, h2, h3⟩ := h
  exact ⟨es, clock, by rw [k.block mb (Array.getElem?_eq_some_iff.1 h1).1 hne]; exact h1, h2, h3⟩
theorem info_string : (Tryz.prog.info? 9).map (fun i => (i.zero, i.size, i.bytes)) = some (some (.string ⟨#[]⟩), 1, 16) := by kernel_rfl
theorem zero_thing (w : World) : (zeroValue 221).run Tryz.prog w = .ok (.agg #[.int .i64 0, .string ⟨#[]⟩, .int .i64 0, .int .i64 0]) w := by kernel_rfl
theorem layGo_step {lit : Int} {ts os : List Term} {k : Nat} {t o : Term} {m : TMap} {fr : List ByteArray} (ht : ts.drop k = t :: ts.drop (k + 1)) (ho : os.drop k = o :: os.drop (k + 1)) :
    layGo lit (ts.drop k) (os.drop k) k m fr = if t.kind = 3 then (if o = t then layGo lit (ts.drop (k + 1)) (os.drop (k + 1)) (k + 1) m fr else none)
      else if t.kind = 1 then
        match m t.text with
        | none => layGo lit (ts.drop (k + 1)) (os.drop (k + 1)) (k + 1) (updT m t.text (thingOf o lit k)) (fr ++ [t.text])
        | some y => if y = thingOf o lit k then layGo lit (ts.drop (k + 1)) (os.drop (k + 1)) (k + 1) m fr else none
      else layGo lit (ts.drop (k + 1)) (os.drop (k + 1)) (k + 1) m fr := by
  rw [ht, ho, layGo]
  rfl
theorem LaySt.undo {m0 m : TMap} {W wr : World} {mb : Nat} {fr : List ByteArray} {v : Value} (h : LaySt m0 W mb m fr v wr) : without (fv m) fr = fv m0 := by
  funext x
  by_cases hx : x ∈ fr
  · simp [without, hx, fv, h.fresh x hx]
  · simp [without, hx, fv, h.rest x hx]
theorem LaySt.grow {m0 m : TMap} {W wr w2 : World} {mb : Nat} {fr : List ByteArray} {v : Value} (h : LaySt m0 W mb m fr v wr) (k : Ext wr w2) : LaySt m0 W mb m fr v w2 :=
  ⟨gb_trans h.beside (gb_of_ext k _), h.map.ext k, h.own.kept (gb_of_ext k none) (by cases v.ownBlock <;> simp), h.fresh, h.rest⟩
set_option maxRecDepth 100000 in
set_option maxHeartbeats 2000000 in
theorem c_lay (m0 : TMap) (a o : Atom) (aa ao : Option Addr) (na ca no co : Nat) (lit : Int) (mb : Nat) (w : World) (hm : SMap w mb (fv m0)) (ha : TermsAt w aa na a.terms) (ho : TermsAt w ao no o.terms) :
    Calls Tryz.prog 139 #[.map (some mb), .agg #[.string a.pred, .slice aa na ca], .agg #[.string o.pred, .slice ao no co], .int .i64 lit] w (LayPost m0 a o lit mb w) := by
  have hn := ha.1
  have LA := Lib.hid ha.2.1
  have LO := Lib.hid ho.2.1
  have HA := Lib.hid ha
  have HO := Lib.hid ho
  have HM := Lib.hid hm
  clear ha ho hm
  obtain ⟨b1, e1⟩ : ∃ b, (a.pred.toList == o.pred.toList) = b := ⟨_, rfl⟩
  obtain ⟨b2, e2⟩ : ∃ b, ((na : Int) != no) = b := ⟨_, rfl⟩
  have fin : Hid (lay m0 a o lit = if (b1 && !b2) = true then layGo lit a.terms o.terms 0 m0 [] else none) := by
    show _ = _
    rw [beq_bytes] at e1
    subst e1 e2
    unfold lay
    rw [LA.out, LO.out]
    by_cases h : a.pred = o.pred <;> by_cases h2 : na = no
    · simp [h, h2]
    · have h3 : ¬ (na : Int) = no := by omega
      simp [h, h2, h3]
    · simp [h, h2]
    · simp [h, h2]
  cases b1 with
  | false =>
    go_enter Tryz.func139, Tryz.ntmps139
    go_wp2
    go_ret2
    exact LayPost.none (by rw [fin.out]; simp) (gb_of_ext (ext_alloc (ext_alloc (Below.refl _ _) _) _) _) (HM.out.ext (ext_alloc (ext_alloc (Below.refl _ _) _) _))
  | true =>
    cases b2 with
    | true =>
      go_enter Tryz.func139, Tryz.ntmps139
      go_wp2
      go_ret2
      exact LayPost.none (by rw [fin.out]; simp) (gb_of_ext (ext_alloc (ext_alloc (Below.refl _ _) _) _) _) (HM.out.ext (ext_alloc (ext_alloc (Below.refl _ _) _) _))
    | false =>
      obtain rfl : na = no := by
        have : (na : Int) = no := by simpa using e2
        omega
      go_enter Tryz.func139, Tryz.ntmps139
      go_wp2
      refine wp_gen (fun W hW => ?_)
      have hb0 : Ext w W := by rw [hW]; go_grown
      have x6 : W.cell? ⟨w.heap.size + 1, 1, none⟩ = some (.slice ao na co) := by rw [hW]; go_simp
      have hz : w.heap.size + 1 < W.heap.size := World.block_lt_of_cell? _ _ x6
      have HMW := Lib.hid (HM.out.ext hb0)
      have hmb := HM.out.lt
      have HAW := Lib.hid (HA.out.keep hb0)
      have HOW := Lib.hid (HO.out.keep hb0)
      have fin2 : Hid (lay m0 a o lit = layGo lit a.terms o.terms 0 m0 []) := by
        have h := fin.out
        show _ = _
        simpa using h
      clear hW fin HA HO e1 e2
      go_loopw [10, 34] (fun v i wr => LayInv m0 a.terms o.terms lit na W mb v i wr) (fun _ i _ => na - (intOf i).toNat)
      case atStart => exact ⟨0, m0, [], by omega, rfl, by simp, ⟨gb_refl _ _, HMW.out, World.ownsRow_nil _ _ _ _, by simp, by simp⟩, by simp⟩
      case round =>
        obtain ⟨k, m, fr, hk, rfl, hfr, hst, hq⟩ := hrel
        have y6 := hst.beside.cell x6 (fun e => smap_ne HMW.out x6 (Option.some.inj e))
        have hz1 : w.heap.size + 1 < wr.heap.size := Nat.lt_of_lt_of_le hz hst.beside.size
        have HQ := Lib.hid hq
        have HS := Lib.hid hst
        clear hq hst
        by_cases hlt : k < na
        · obtain ⟨t, bt, off, hx, rfl, hc1, hc2, hc3⟩ := (HAW.out.gb HS.out.beside HMW.out).2.at hlt
          obtain ⟨u, bu, offu, hxu, rfl, hu1, hu2, hu3⟩ := (HOW.out.gb HS.out.beside HMW.out).2.at hlt
          have hz2 := World.block_lt_of_cell? _ _ hu1
          have HSTEP := Lib.hid (layGo_step (lit := lit) (m := m) (fr := fr) (drop_at hx) (drop_at hxu))
          clear hx hxu
          obtain ⟨b3, e3⟩ : ∃ b, (u.kind == 2) = b := ⟨_, rfl⟩
          obtain ⟨L, hL⟩ : ∃ L, L = (thingOf u lit k).literal := ⟨_, rfl⟩
          obtain ⟨Pl, hPl⟩ : ∃ L, L = (thingOf u lit k).place := ⟨_, rfl⟩
          have HL := Lib.hid hL
          have HP := Lib.hid hPl
          clear hL hPl
          go_upto_if 48 with (fail)
          go_cut [] (fun wc => wc = (wr.alloc (.cells #[.int .i64 t.kind, .string t.text] 42)).alloc (.cells #[.int .i64 u.kind, .string u.text, .int .i64 L, .int .i64 Pl] 221))
          case first =>
            cases b3 with
            | true =>
              have hL : lit = L := by have := HL.out; simp only [thingOf] at this; rw [if_pos (by simpa using e3)] at this; exact this.symm
              have hP : (k : Int) = Pl := by have := HP.out; simp only [thingOf] at this; rw [if_pos (by simpa using e3)] at this; exact this.symm
              have HL2 := Lib.hid hL
              have HP2 := Lib.hid hP
              clear hL hP HL HP
              go_wp2
              go_meet
              show World.alloc _ _ = _
              rw [HL2.out, HP2.out]
            | false =>
              have hL : (0 : Int) = L := by have := HL.out; simp only [thingOf] at this; rw [if_neg (by simpa using e3)] at this; exact this.symm
              have hP : (0 : Int) = Pl := by have := HP.out; simp only [thingOf] at this; rw [if_neg (by simpa using e3)] at this; exact this.symm
              have HL2 := Lib.hid hL
              have HP2 := Lib.hid hP
              clear hL hP HL HP
              go_wp2
              go_meet
              rw [← HL2.out, ← HP2.out]
          case rest =>
            subst hcut
            obtain ⟨av, capv, rfl, hstr⟩ := own_strs HS.out.own (by omega)
            have hX : thingOf u lit k = ⟨u, L, Pl⟩ := by rw [HL.out, HP.out]; rfl
            have HX := Lib.hid hX
            clear hX
            have hext : Ext wr ((wr.alloc (.cells #[.int .i64 t.kind, .string t.text] 42)).alloc (.cells #[.int .i64 u.kind, .string u.text, .int .i64 L, .int .i64 Pl] 221)) := ext_alloc (ext_alloc (Below.refl _ _) _) _
            have hsc := Lib.hid (HS.out.grow hext)
            have hstr2 : StrsAt ((wr.alloc (.cells #[.int .i64 t.kind, .string t.text] 42)).alloc (.cells #[.int .i64 u.kind, .string u.text, .int .i64 L, .int .i64 Pl] 221)) av fr.length fr := ⟨hstr.1, hstr.2.1, fun i s hs => let ⟨b, off, h1, h2⟩ := hstr.2.2 i s hs; ⟨b, off, h1, keep hext h2⟩⟩
            have HSTR := Lib.hid hstr2
            clear hstr hstr2 hc1 hc2 hu1 hu2 y6 hext e3
            obtain ⟨b4, e4⟩ : ∃ b, (t.kind == 3) = b := ⟨_, rfl⟩
            obtain ⟨b5, e5⟩ : ∃ b, (t.kind == 1) = b := ⟨_, rfl⟩
            cases b4 with
            | true =>
              obtain ⟨b6, e6⟩ : ∃ b, termEq u.kind u.text t.kind t.text = b := ⟨_, rfl⟩
              have h3 : t.kind = 3 := by simpa using e4
              have h4 := Lib.hid h3
              have eqt := eql_term u.kind t.kind u.text t.text
              rw [e6] at eqt
              have E6 := Lib.hid e6
              clear h3 e6
              cases b6 with
              | true =>
                go_wp2
                go_roundw
                case rel => exact ⟨k + 1, m, fr, by omega, by go_num, by omega, hsc.out, by rw [HQ.out, HSTEP.out, if_pos h4.out, if_pos (by have := E6.out; rw [termEq_iff] at this; simpa using this)]⟩
                case measure => simp [intOf]; omega
              | false =>
                go_wp2_with (go_at_call 140; (with_reducible refine (c_forget (fv m) fr _ _ _ mb _ hsc.out.map HSTR.out).mono ?_); rintro e w2 ⟨rfl, hg2, hs2⟩)
                go_ret2
                rw [HS.out.undo] at hs2
                refine LayPost.none ?_ (gb_trans (gb_of_ext hb0 _) (gb_trans hsc.out.beside hg2)) hs2
                rw [fin2.out, HQ.out, HSTEP.out, if_pos h4.out, if_neg (by have := E6.out; rw [termEq_iff] at this; simpa using this)]
            | false =>
              have h3 : ¬ t.kind = 3 := by simpa using e4
              have N3 := Lib.hid h3
              clear h3
              cases b5 with
              | false =>
                have h1 : ¬ t.kind = 1 := by simpa using e5
                have N1 := Lib.hid h1
                clear h1
                go_wp2
                go_roundw
                case rel => exact ⟨k + 1, m, fr, by omega, by go_num, by omega, hsc.out, by rw [HQ.out, HSTEP.out, if_neg N3.out, if_neg N1.out]⟩
                case measure => simp [intOf]; omega
              | true =>
                have h1 : t.kind = 1 := by simpa using e5
                have N1 := Lib.hid h1
                clear h1
                have hlk := run_look (P := Tryz.prog) (t := 198) hsc.out.map Tryz.underlying198 Tryz.underlying9 (zero_thing _) t.text true
                cases hmt : m t.text with
                | some y =>
                  have hf : fv m t.text = some (thingV y) := by simp [fv, hmt]
                  rw [hf] at hlk
                  simp only [Option.getD_some, Option.isSome_some, if_true, thingV] at hlk
                  have HMT := Lib.hid hmt
                  obtain ⟨b6, e6⟩ : ∃ b, thingEq y (thingOf u lit k) = b := ⟨_, rfl⟩
                  have eq := eql_thing y (thingOf u lit k)
                  rw [e6, HX.out] at eq
                  have E6 := Lib.hid e6
                  clear hf hmt e6
                  cases b6 with
                  | true =>
                    go_wp2
                    go_roundw
                    case rel => exact ⟨k + 1, m, fr, by omega, by go_num, by omega, hsc.out.grow (ext_alloc (Below.refl _ _) _), by
                      rw [HQ.out, HSTEP.out, if_neg N3.out, if_pos N1.out, HMT.out]
                      exact if_pos (by have := E6.out; simpa [thingEq] using this)⟩
                    case measure => simp [intOf]; omega
                  | false =>
                    go_wp2_with (go_at_call 140; (with_reducible refine (c_forget (fv m) fr _ _ _ mb _ (hsc.out.map.ext (ext_alloc (Below.refl _ _) _)) (HSTR.out.keep (ext_alloc (Below.refl _ _) _))).mono ?_); rintro e w2 ⟨rfl, hg2, hs2⟩)
                    go_ret2
                    rw [HS.out.undo] at hs2
                    refine LayPost.none ?_ (gb_trans (gb_of_ext hb0 _) (gb_trans (gb_trans hsc.out.beside (World.grownBy_alloc _ _ _)) hg2)) hs2
                    rw [fin2.out, HQ.out, HSTEP.out, if_neg N3.out, if_pos N1.out, HMT.out]
                    exact if_neg (by have := E6.out; simpa [thingEq] using this)
                | none =>
                  have hf : fv m t.text = none := by simp [fv, hmt]
                  rw [hf] at hlk
                  simp only [Option.getD_none, Option.isSome_none, if_true] at hlk
                  have HMT := Lib.hid hmt
                  clear hf hmt
                  have hst3 := hsc.out.grow (ext_alloc (Below.refl _ _) (.cells #[.int .i64 0, .string ⟨#[]⟩, .int .i64 0, .int .i64 0] 221))
                  obtain ⟨om, hrun, hsm⟩ := run_upd (P := Tryz.prog) (t := 198) hst3.map Tryz.underlying198 Tryz.underlying9 t.text (thingV ⟨u, L, Pl⟩)
                  have y12 := setMap_cell (o := om) hst3.map ⟨wr.heap.size, 1, none⟩ (v := .string t.text) (by go_simp)
                  have hgm := setMap_grown (((wr.alloc (.cells #[.int .i64 t.kind, .string t.text] 42)).alloc (.cells #[.int .i64 u.kind, .string u.text, .int .i64 L, .int .i64 Pl] 221)).alloc (.cells #[.int .i64 0, .string ⟨#[]⟩, .int .i64 0, .int .i64 0] 221)) mb om
                  have hmW : mb < W.heap.size := HMW.out.lt
                  have hownm := hst3.own.kept hgm (by
                    rcases hst3.own.lt with hlt'
                    cases hv : (Value.slice av fr.length capv).ownBlock with
                    | none => exact .inl rfl
                    | some g => exact .inr (by have := (hlt' g hv).1; intro e; cases e; omega))
                  have hbm := gb_trans hst3.beside hgm
                  generalize setMap _ mb om = Wm at hrun hsm y12 hgm hownm hbm
                  have hzm : wr.heap.size < Wm.heap.size := World.block_lt_of_cell? _ _ y12
                  have hWm : W.heap.size ≤ Wm.heap.size := hbm.size
                  rw [fv_upd] at hsm
                  simp only [thingV] at hrun
                  obtain ⟨i0, hi, hz0, hz1', hz2'⟩ := info_parts info_string
                  have HSM := Lib.hid hsm
                  have HBM := Lib.hid hbm
                  clear hsm hbm hgm hst3
                  go_wp2_with (at_builtin; refine wpList_append_own _ rfl _ _ 25 rfl W.heap.size 9 i0 (.string ⟨#[]⟩) 1 16 Tryz.underlying25 hi hz0 hz1' hz2' rfl (by decide) _ _ _ rfl (hownm.alloc _) ⟨Wm.heap.size, 0, none⟩ 1 1 [.string t.text] rfl rfl ?c1 ?c2 ?c3 ?c4 ?c5 ?_)
                  case c2 => rfl
                  case c3 => unfold maxLen; omega
                  case c4 => omega
                  case c5 => omega
                  intro v' w3 hown' hgw _
                  have hge : ∀ g, (Value.slice av fr.length capv).ownBlock = some g → W.heap.size ≤ g := fun g hg => (hownm.lt g hg).1
                  have hst4 : LaySt m0 W mb (updT m t.text ⟨u, L, Pl⟩) (fr ++ [t.text]) v' w3 := by
                    refine ⟨gb_own (gb_trans HBM.out (World.grownBy_alloc _ _ _)) hgw hge, smap_gb (HSM.out.ext (ext_alloc (Below.refl _ _) _)) hgw ?_, by simpa using hown', ?_, ?_⟩
                    · intro e
                      have := hge mb e.symm
                      omega
                    · intro x hx
                      rcases List.mem_append.1 hx with h | h
                      · exact HS.out.fresh x h
                      · simp at h
                        subst h
                        by_cases h2 : t.text ∈ fr
                        · exact HS.out.fresh _ h2
                        · rw [← HS.out.rest _ h2]; exact HMT.out
                    · intro x hx
                      simp at hx
                      simp only [updT, if_neg hx.2]
                      exact HS.out.rest x hx.1
                  have H4 := Lib.hid hst4
                  clear hst4 hgw hown' hownm hge
                  go_wp2
                  go_roundw
                  case rel => exact ⟨k + 1, updT m t.text ⟨u, L, Pl⟩, fr ++ [t.text], by omega, by go_num, by simp; omega, H4.out, by
                    rw [HQ.out, HSTEP.out, if_neg N3.out, if_pos N1.out, HMT.out, HX.out]⟩
                  case measure => simp [intOf]; omega
        · go_wp2
          go_ret2
          have h1 : a.terms.drop k = [] := List.drop_of_length_le (by have := LA.out; omega)
          refine LayPost.some (m' := m) (fr := fr) ?_ (gb_trans (gb_of_ext hb0 _) HS.out.beside) HS.out.map (own_base HS.out.own hb0.size)
          rw [fin2.out, HQ.out, h1]
          rfl
end Go.Proofs.YtlalgaioiapjmaaGreatDoor.K
