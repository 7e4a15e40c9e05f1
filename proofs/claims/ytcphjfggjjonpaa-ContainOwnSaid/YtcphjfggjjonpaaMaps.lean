/- Maps whose keys are strings: what a look-up, a store, a deletion come to. Over any program. -/
import Derived.Test.YtcphjfggjjonpaaMem
namespace Go.Proofs.Ytcphjfggjjonpaa
open Go.RowKit
set_option linter.unusedSimpArgs false

theorem bytes_beq (a b : ByteArray) : (a == b) = decide (a = b) := by
  rw [beq_toListBytes, Bool.eq_iff_iff, beq_iff_eq, decide_eq_true_eq, toList_eq_iff]
  obtain ⟨⟨x⟩⟩ := b
  rw [ByteArray.toList_eq]
/-- What the entries hold under a key. -/
def lookE : List MapEntry → ByteArray → Option Value
  | [], _ => none
  | e :: es, k => match e.key with
    | .string s => if s = k then some e.val else lookE es k
    | _ => lookE es k
def keysOk (es : List MapEntry) : Prop := (∀ e ∈ es, ∃ s, e.key = .string s) ∧ (es.map (·.key)).Nodup
def SMap (w : World) (b : Nat) (f : ByteArray → Option Value) : Prop :=
  ∃ es clock, w.heap[b]? = some (.map es clock) ∧ keysOk es.toList ∧ ∀ k, f k = lookE es.toList k
def upd (f : ByteArray → Option Value) (k : ByteArray) (v : Option Value) : ByteArray → Option Value := fun x => if x = k then v else f x

theorem findNow_none {es : List MapEntry} (h : ∀ e ∈ es, ∃ s, e.key = .string s) (k : ByteArray) (hl : lookE es k = none) (i : Nat) : Instr.findNow .string (.string k) es i = some none := by
  induction es generalizing i with
  | nil => rfl
  | cons e es ih =>
    obtain ⟨s, hs⟩ := h e (by simp)
    simp only [lookE, hs] at hl
    split at hl
    · cases hl
    · rename_i hne
      have hb : (k == s) = false := by rw [bytes_beq]; simp; exact fun e => hne e.symm
      simp only [Instr.findNow, hs, Instr.sameNow, hb]
      exact ih (fun e he => h e (by simp [he])) hl (i + 1)
theorem findNow_some {es : List MapEntry} (h : ∀ e ∈ es, ∃ s, e.key = .string s) (k : ByteArray) {v : Value} (hl : lookE es k = some v) (i : Nat) :
    ∃ j e, Instr.findNow .string (.string k) es i = some (some (i + j, v)) ∧ es[j]? = some e ∧ e.key = .string k ∧ e.val = v := by
  induction es generalizing i with
  | nil => cases hl
  | cons e es ih =>
    obtain ⟨s, hs⟩ := h e (by simp)
    simp only [lookE, hs] at hl
    split at hl
    · rename_i he
      cases hl
      have hb : (k == s) = true := by rw [bytes_beq]; simp [he]
      exact ⟨0, e, by simp only [Instr.findNow, hs, Instr.sameNow, hb]; rfl, rfl, by rw [hs, he], rfl⟩
    · rename_i hne
      have hb : (k == s) = false := by rw [bytes_beq]; simp; exact fun e => hne e.symm
      obtain ⟨j, e', h1, h2, h3, h4⟩ := ih (fun e he => h e (by simp [he])) hl (i + 1)
      refine ⟨j + 1, e', ?_, by simpa using h2, h3, h4⟩
      simp only [Instr.findNow, hs, Instr.sameNow, hb]
      rw [h1]
      congr 3
      omega
section
variable {P : Program} {w : World} {b : Nat} {f : ByteArray → Option Value} {t kt et : TypeId}
theorem run_look (hs : SMap w b f) (ht : P.underlying t = some (.map kt et)) (hk : P.underlying kt = some .string) {z : Value} (hz : (zeroValue et).run P w = .ok z w) (k : ByteArray) (c : Bool) :
    (Instr.lookup t (.map (some b)) (.string k) c).run P w = .ok (if c then .tuple #[(f k).getD z, .bool (f k).isSome] else (f k).getD z) w := by
  obtain ⟨es, clock, h1, h2, h3⟩ := hs
  have hck : (Instr.checkKey es.isEmpty 10000 kt (.string k)).run P w = .ok () w := @MapKept.run_checkKey P w kt .string (.string k) hk (by exact trivial) es.isEmpty 9999
  rw [h3 k]
  cases hl : lookE es.toList k with
  | none =>
    have hf := MapKept.run_findKey (P := P) (w := w) hk (findNow_none h2.1 k hl 0)
    simp only [Instr.lookup, Sem.run_bind, run_underlying ht, Result.andThen_ok, Sem.run_pure, getObj, Sem.run, h1, hck, hf, hz]
    cases c <;> rfl
  | some v =>
    obtain ⟨j, e, hf0, _, _, _⟩ := findNow_some h2.1 k hl 0
    have hf := MapKept.run_findKey (P := P) (w := w) hk hf0
    simp only [Instr.lookup, Sem.run_bind, run_underlying ht, Result.andThen_ok, Sem.run_pure, getObj, Sem.run, h1, hck, hf]
    cases c <;> rfl

theorem eraseIdx_look {es : List MapEntry} (hk : keysOk es) {j : Nat} {e : MapEntry} {k : ByteArray} (hj : es[j]? = some e) (he : e.key = .string k) (x : ByteArray) :
    lookE (es.eraseIdx j) x = if x = k then none else lookE es x := by
  induction es generalizing j with
  | nil => simp at hj
  | cons a es ih =>
    obtain ⟨s, hs⟩ := hk.1 a (by simp)
    have hk' : keysOk es := ⟨fun e h => hk.1 e (by simp [h]), (List.nodup_cons.1 hk.2).2⟩
    cases j with
    | zero =>
      simp at hj
      subst hj
      rw [he] at hs
      cases hs
      simp only [List.eraseIdx_zero, List.tail_cons, lookE, he]
      by_cases hx : x = k
      · subst hx
        rw [if_pos rfl]
        cases hl : lookE es x with
        | none => rfl
        | some v =>
          exfalso
          obtain ⟨j, e', _, h2, h3, _⟩ := findNow_some hk'.1 x hl 0
          have hm : e'.key ∈ es.map (·.key) := List.mem_map.2 ⟨e', List.mem_of_getElem? h2, rfl⟩
          rw [h3, ← he] at hm
          exact (List.nodup_cons.1 hk.2).1 hm
      · rw [if_neg hx, if_neg (fun h => hx h.symm)]
    | succ j =>
      simp at hj
      simp only [List.eraseIdx_cons_succ, lookE, hs, ih hk' hj]
      by_cases hx : x = k
      · subst hx
        rw [if_pos rfl, if_pos rfl]
        split
        · rename_i h
          exfalso
          have hm : e.key ∈ es.map (·.key) := List.mem_map.2 ⟨e, List.mem_of_getElem? hj, rfl⟩
          rw [he, ← h, ← hs] at hm
          exact (List.nodup_cons.1 hk.2).1 hm
        · rfl
      · simp [hx]
theorem modify_look {es : List MapEntry} (hk : keysOk es) {j : Nat} {e : MapEntry} {k : ByteArray} (hj : es[j]? = some e) (he : e.key = .string k) (v : Value) (x : ByteArray) :
    lookE (es.modify j fun e => { e with key := .string k, val := v }) x = if x = k then some v else lookE es x := by
  induction es generalizing j with
  | nil => simp at hj
  | cons a es ih =>
    obtain ⟨s, hs⟩ := hk.1 a (by simp)
    have hk' : keysOk es := ⟨fun e h => hk.1 e (by simp [h]), (List.nodup_cons.1 hk.2).2⟩
    cases j with
    | zero =>
      simp at hj
      subst hj
      rw [he] at hs
      cases hs
      simp only [List.modify_zero_cons, lookE, he]
      by_cases hx : x = k
      · simp [hx]
      · simp [hx, Ne.symm hx]
    | succ j =>
      simp at hj
      simp only [List.modify_succ_cons, lookE, hs, ih hk' hj]
      by_cases hx : x = k
      · subst hx
        rw [if_pos rfl, if_pos rfl]
        split
        · rename_i h
          exfalso
          have hm : e.key ∈ es.map (·.key) := List.mem_map.2 ⟨e, List.mem_of_getElem? hj, rfl⟩
          rw [he, ← h, ← hs] at hm
          exact (List.nodup_cons.1 hk.2).1 hm
        · rfl
      · simp [hx]
theorem modify_ok {es : List MapEntry} (hk : keysOk es) {j : Nat} {e : MapEntry} {k : ByteArray} (hj : es[j]? = some e) (he : e.key = .string k) (v : Value) :
    keysOk (es.modify j fun e => { e with key := .string k, val := v }) := by
  have hm : (es.modify j fun e => { e with key := .string k, val := v }).map (·.key) = es.map (·.key) := by
    apply List.ext_getElem?
    intro i
    simp only [List.getElem?_map, List.getElem?_modify]
    by_cases hi : j = i
    · subst hi; simp [hj, he]
    · simp [hi]
  refine ⟨fun x hx => ?_, by rw [hm]; exact hk.2⟩
  have : x.key ∈ es.map (·.key) := by rw [← hm]; exact List.mem_map.2 ⟨x, hx, rfl⟩
  obtain ⟨y, hy, hyk⟩ := List.mem_map.1 this
  obtain ⟨s, hs⟩ := hk.1 y hy
  exact ⟨s, by rw [← hyk, hs]⟩
theorem push_look {es : List MapEntry} {k : ByteArray} (hl : lookE es k = none) (h : ∀ e ∈ es, ∃ s, e.key = .string s) (v : Value) (c : Nat) (x : ByteArray) :
    lookE (es ++ [{ key := .string k, val := v, born := c }]) x = if x = k then some v else lookE es x := by
  induction es with
  | nil =>
    by_cases hx : x = k
    · simp [lookE, hx]
    · simp [lookE, hx, Ne.symm hx]
  | cons a es ih =>
    obtain ⟨s, hs⟩ := h a (by simp)
    simp only [lookE, hs] at hl
    split at hl
    · cases hl
    · rename_i hne
      simp only [List.cons_append, lookE, hs, ih hl (fun e he => h e (by simp [he]))]
      by_cases hx : x = k
      · subst hx; simp [hne]
      · simp [hx]
theorem push_ok {es : List MapEntry} (hk : keysOk es) {k : ByteArray} (hl : lookE es k = none) (v : Value) (c : Nat) :
    keysOk (es ++ [{ key := .string k, val := v, born := c }]) := by
  refine ⟨fun e he => ?_, ?_⟩
  · rcases List.mem_append.1 he with h | h
    · exact hk.1 e h
    · simp at h; exact ⟨k, by rw [h]⟩
  · rw [List.map_append, List.nodup_append]
    refine ⟨hk.2, by simp, fun a ha b hb => ?_⟩
    simp at hb
    subst hb
    rintro rfl
    obtain ⟨e, he, hek⟩ := List.mem_map.1 ha
    clear ha
    have : ∀ es : List MapEntry, (∀ e ∈ es, ∃ s, e.key = .string s) → e ∈ es → lookE es k ≠ none := by
      intro es
      induction es with
      | nil => simp
      | cons a es ih =>
        intro h hm
        obtain ⟨s, hs⟩ := h a (by simp)
        simp only [lookE, hs]
        split
        · simp
        · rename_i hne
          rcases List.mem_cons.1 hm with rfl | hm
          · exfalso; rw [hek] at hs; cases hs; exact hne rfl
          · exact ih (fun e he => h e (by simp [he])) hm
    exact this es hk.1 he hl
/-- The world in which the map's block b has turned into o. -/
def setMap (w : World) (b : Nat) (o : Obj) : World := { w with heap := w.heap.setIfInBounds b o }
theorem setMap_grown (w : World) (b : Nat) (o : Obj) : w.grownBy (setMap w b o) (some b) :=
  ⟨rfl, rfl, rfl, by simp [setMap], fun k hk hne => by simp [setMap]; rw [Array.getElem?_setIfInBounds_ne (fun e => hne (by rw [e]))]⟩
theorem run_upd (hs : SMap w b f) (ht : P.underlying t = some (.map kt et)) (hk : P.underlying kt = some .string) (k : ByteArray) (v : Value) :
    ∃ o, (Instr.mapUpdate t (.map (some b)) (.string k) v).run P w = .ok () (setMap w b o) ∧ SMap (setMap w b o) b (upd f k (some v)) := by
  obtain ⟨es, clock, h1, h2, h3⟩ := hs
  have hck : (Instr.checkKey false 10000 kt (.string k)).run P w = .ok () w := @MapKept.run_checkKey P w kt .string (.string k) hk (by exact trivial) false 9999
  have hb : b < w.heap.size := (Array.getElem?_eq_some_iff.1 h1).1
  cases hl : lookE es.toList k with
  | none =>
    have hf := MapKept.run_findKey (P := P) (w := w) hk (findNow_none h2.1 k hl 0)
    refine ⟨.map (es.push { key := .string k, val := v, born := clock }) (clock + 1), ?_, ?_⟩
    · simp only [Instr.mapUpdate, Sem.run_bind, run_underlying ht, Result.andThen_ok, Sem.run_pure, getObj, Sem.run, h1, hck, hf, setObj]
      rfl
    · refine ⟨_, _, by simp [setMap, hb]; first | exact ⟨rfl, rfl⟩ | rfl, ?_, fun x => ?_⟩
      · rw [Array.toList_push]; exact push_ok h2 hl v clock
      · rw [Array.toList_push, push_look hl h2.1, upd, h3]
  | some u =>
    obtain ⟨j, e, hf0, hj, hek, _⟩ := findNow_some h2.1 k hl 0
    have hf := MapKept.run_findKey (P := P) (w := w) hk hf0
    have hj' : es[0 + j]? = some e := by simpa using hj
    have hbeq : (k == k) = true := by rw [bytes_beq]; simp
    refine ⟨.map (es.modify (0 + j) fun e => { e with key := .string k, val := v }) clock, ?_, ?_⟩
    · simp only [Instr.mapUpdate, Sem.run_bind, run_underlying ht, Result.andThen_ok, Sem.run_pure, getObj, Sem.run, h1, hck, hf, setObj, hj', Option.map_some, Option.getD_some, hek, Instr.keyThatStays, Instr.sameBits, hbeq, if_true]
      rfl
    · refine ⟨_, _, by simp [setMap, hb]; first | exact ⟨rfl, rfl⟩ | rfl, ?_, fun x => ?_⟩
      · rw [Array.toList_modify]; exact modify_ok h2 hj hek v
      · rw [Array.toList_modify, modify_look h2 hj hek, upd, h3]
theorem run_del (hs : SMap w b f) (ht : P.underlying t = some (.map kt et)) (hk : P.underlying kt = some .string) (k : ByteArray) (ty : TypeId) :
    ∃ o, (Builtin.delete_ #[t, kt] ty #[.map (some b), .string k]).run P w = .ok (.tuple #[]) (setMap w b o) ∧ SMap (setMap w b o) b (upd f k none) := by
  obtain ⟨es, clock, h1, h2, h3⟩ := hs
  have hck : (Instr.checkKey es.isEmpty 10000 kt (.string k)).run P w = .ok () w := @MapKept.run_checkKey P w kt .string (.string k) hk (by exact trivial) es.isEmpty 9999
  have hb : b < w.heap.size := (Array.getElem?_eq_some_iff.1 h1).1
  cases hl : lookE es.toList k with
  | none =>
    have hf := MapKept.run_findKey (P := P) (w := w) hk (findNow_none h2.1 k hl 0)
    refine ⟨.map es clock, ?_, ?_⟩
    · simp [Builtin.delete_, run_underlying ht, getObj, Sem.run, h1, hck, hf, setObj]
      rfl
    · refine ⟨_, _, by simp [setMap, hb]; first | exact ⟨rfl, rfl⟩ | rfl, h2, fun x => ?_⟩
      rw [upd, h3]
      by_cases hx : x = k
      · rw [if_pos hx, hx, hl]
      · rw [if_neg hx]
  | some u =>
    obtain ⟨j, e, hf0, hj, hek, _⟩ := findNow_some h2.1 k hl 0
    have hf := MapKept.run_findKey (P := P) (w := w) hk hf0
    refine ⟨.map (es.eraseIdxIfInBounds (0 + j)) clock, ?_, ?_⟩
    · simp [Builtin.delete_, run_underlying ht, getObj, Sem.run, h1, hck, hf, setObj]
      rfl
    · have hjlt : j < es.size := by have := (List.getElem?_eq_some_iff.1 hj).1; simpa using this
      have hte : (es.eraseIdxIfInBounds j).toList = es.toList.eraseIdx j := by
        simp [Array.eraseIdxIfInBounds, hjlt]
      refine ⟨_, _, by simp [setMap, hb]; first | exact ⟨rfl, rfl⟩ | rfl, ?_, fun x => ?_⟩
      · rw [hte]
        refine ⟨fun e he => h2.1 e (List.mem_of_mem_eraseIdx he), ?_⟩
        exact h2.2.sublist ((List.eraseIdx_sublist _ _).map _)
      · rw [hte, eraseIdx_look h2 hj hek, upd, h3]
theorem SMap.ext {w' : World} (hs : SMap w b f) (h : Ext w w') : SMap w' b f := by
  obtain ⟨es, clock, h1, h2, h3⟩ := hs
  exact ⟨es, clock, by rw [h.block b (Array.getElem?_eq_some_iff.1 h1).1]; exact h1, h2, h3⟩
theorem SMap.lt (hs : SMap w b f) : b < w.heap.size := by
  obtain ⟨es, clock, h1, h2, h3⟩ := hs
  exact (Array.getElem?_eq_some_iff.1 h1).1
theorem SMap.made (w : World) : SMap (w.alloc (.map #[] 0)) w.heap.size (fun _ => none) :=
  ⟨#[], 0, heap_alloc_new w _, ⟨by simp, by simp⟩, fun _ => rfl⟩
/-- Another block's cells stand when the map turns. -/
theorem setMap_cell {o : Obj} (hs : SMap w b f) (p : Addr) {v : Value} (hp : w.cell? p = some v) : (setMap w b o).cell? p = some v := by
  obtain ⟨es, clock, h1, _, _⟩ := hs
  have hne : p.block ≠ b := by
    intro e
    rw [← e] at h1
    simp [World.cell?, h1] at hp
  rw [← hp]
  exact World.cell?_of_block (by simp [setMap]; rw [Array.getElem?_setIfInBounds_ne (fun e => hne e.symm)])
/-- What lies below the map's block stands when the map turns. -/
theorem setMap_below {o : Obj} {B : Nat} (hB : B ≤ b) : Below B w (setMap w b o) :=
  ⟨rfl, rfl, rfl, by simp [setMap], fun k hk => by simp [setMap]; rw [Array.getElem?_setIfInBounds_ne (by omega)]⟩
end
end Go.Proofs.Ytcphjfggjjonpaa
