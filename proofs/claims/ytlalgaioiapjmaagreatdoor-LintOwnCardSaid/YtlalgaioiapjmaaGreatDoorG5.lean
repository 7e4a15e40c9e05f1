/- Maps in memory as lists of entries, whatever the keys' type: look-up, store, length, and a range over all of them. Over any program. What schema, graph, strata, print and lint come to, as plain functions. No conditions. Plain law of the search for parts: it ends, its places stand within, all that was met is told its part. No code of the program. Blocks of numbers and lists of numbers in memory. No code of the program. The walk of schema.arities.fits: is a name used with as many terms as before? Keys of two texts. A map of texts read as data: what maps.Keys' contract asks. slices.Sorted(maps.Keys(m)) at a map of texts to numbers. -/
import Derived.Test.YtlalgaioiapjmaaGreatDoorG0
import Derived.Test.YtlalgaioiapjmaaGreatDoorG2
import Derived.Maps.Keyed
import Derived.StringKeys
import Derived.Maps.RangeRun
import Derived.Deep.RegionLaw
import Derived.Test.YtlalgaioiapjmaaGreatDoorRows
import Derived.DeepKeys4
import Derived.Shelf.SlIter.Nil
import Derived.Shelf.SortM.Plain
import Derived.Shelf.SortM.SortNone
import Derived.Ground.GgzProg
import Derived.Ground.SlgmProg
namespace Go.Proofs.YtlalgaioiapjmaaGreatDoor
open Go.RowKit Go.Maps
section
variable {α β : Type} [DecidableEq α]
def getL : List (α × β) → α → Option β
  | [], _ => none
  | (k, v) :: l, x => if k = x then some v else getL l x
def putL : List (α × β) → α → β → List (α × β)
  | [], x, v => [(x, v)]
  | (k, u) :: l, x, v => if k = x then (k, v) :: l else (k, u) :: putL l x v
theorem getL_none {l : List (α × β)} {x : α} : getL l x = none ↔ x ∉ l.map (·.1) := by
  induction l with
  | nil => simp [getL]
  | cons p l ih =>
    obtain ⟨k, v⟩ := p
    unfold getL
    by_cases h : k = x
    · simp [h]
    · rw [if_neg h, ih]
      simp [Ne.symm h]
theorem getL_at : ∀ {l : List (α × β)} {j : Nat} {x : α} {v : β}, (l.map (·.1)).Nodup → l[j]? = some (x, v) → getL l x = some v
  | [], j, x, v, _, h => by simp at h
  | (k, u) :: l, j, x, v, hn, h => by
    obtain ⟨h1, h2⟩ := List.nodup_cons.1 hn
    unfold getL
    cases j with
    | zero => simp at h; rw [if_pos h.1, h.2]
    | succ j =>
      have h3 : l[j]? = some (x, v) := by simpa using h
      have h4 : x ∈ l.map (·.1) := List.mem_map.2 ⟨(x, v), List.mem_of_getElem? h3, rfl⟩
      rw [if_neg (fun e => h1 (by show k ∈ _; rw [e]; exact h4))]
      exact getL_at h2 h3
theorem putL_new {l : List (α × β)} {x : α} (h : x ∉ l.map (·.1)) (v : β) : putL l x v = l ++ [(x, v)] := by
  induction l with
  | nil => rfl
  | cons p l ih =>
    obtain ⟨k, u⟩ := p
    simp only [List.map_cons, List.mem_cons, not_or] at h
    unfold putL
    rw [if_neg (Ne.symm h.1), ih h.2]
    rfl
theorem putL_at : ∀ {l : List (α × β)} {j : Nat} {x : α} {u : β}, (l.map (·.1)).Nodup → l[j]? = some (x, u) → ∀ v, putL l x v = l.modify j fun _ => (x, v)
  | [], j, x, u, _, h, _ => by simp at h
  | (k, y) :: l, j, x, u, hn, h, v => by
    obtain ⟨h1, h2⟩ := List.nodup_cons.1 hn
    unfold putL
    cases j with
    | zero => simp at h; rw [if_pos h.1, h.1]; rfl
    | succ j =>
      have h3 : l[j]? = some (x, u) := by simpa using h
      have h4 : x ∈ l.map (·.1) := List.mem_map.2 ⟨(x, u), List.mem_of_getElem? h3, rfl⟩
      rw [if_neg (fun e => h1 (by show k ∈ _; rw [e]; exact h4)), putL_at h2 h3 v]
      rfl
theorem putL_keys (l : List (α × β)) (x : α) (v : β) : (putL l x v).map (·.1) = if x ∈ l.map (·.1) then l.map (·.1) else l.map (·.1) ++ [x] := by
  induction l with
  | nil => simp [putL]
  | cons p l ih =>
    obtain ⟨k, u⟩ := p
    unfold putL
    by_cases h : k = x
    · simp [h]
    · rw [if_neg h]
      simp only [List.map_cons, ih, List.mem_cons, Ne.symm h, false_or]
      split <;> rfl
theorem putL_nodup {l : List (α × β)} (h : (l.map (·.1)).Nodup) (x : α) (v : β) : ((putL l x v).map (·.1)).Nodup := by
  rw [putL_keys]
  split
  · exact h
  · rename_i hn
    rw [List.nodup_append]
    exact ⟨h, by simp, fun a ha b hb => by simp at hb; subst hb; rintro rfl; exact hn ha⟩
theorem getL_map {γ : Type} (f : β → γ) (l : List (α × β)) (x : α) : getL (l.map fun p => (p.1, f p.2)) x = (getL l x).map f := by
  induction l with
  | nil => rfl
  | cons p l ih =>
    obtain ⟨k, v⟩ := p
    simp only [List.map_cons, getL]
    by_cases h : k = x
    · simp [h]
    · rw [if_neg h, if_neg h, ih]
theorem putL_map {γ : Type} (f : β → γ) (l : List (α × β)) (x : α) (v : β) : putL (l.map fun p => (p.1, f p.2)) x (f v) = (putL l x v).map fun p => (p.1, f p.2) := by
  induction l with
  | nil => rfl
  | cons p l ih =>
    obtain ⟨k, u⟩ := p
    simp only [List.map_cons, putL]
    by_cases h : k = x
    · simp [h]
    · rw [if_neg h, if_neg h, ih]; rfl
end
/-- How keys are written. -/
structure KEnc (P : Program) (k : TypeId) {α : Type} (kenc : α → Value) (ok : α → Prop) : Prop where
  keyed : Keyed P k
  of : ∀ a, ok a → ∃ l, keyOf P k (kenc a) = some l
  inj : ∀ a b, kenc a = kenc b → a = b
/-- The map at block b. -/
def LMap {α : Type} (kenc : α → Value) (ok : α → Prop) (w : World) (b : Nat) (l : List (α × Value)) : Prop :=
  ∃ es clock, w.heap[b]? = some (.map es clock) ∧ es.toList.map (fun e => (e.key, e.val)) = l.map (fun p => (kenc p.1, p.2)) ∧ (l.map (·.1)).Nodup ∧ (∀ p ∈ l, ok p.1) ∧ MapKept.Stamped es clock
section
variable {α : Type} {kenc : α → Value} {ok : α → Prop} {P : Program} {w w' : World} {b : Nat} {l : List (α × Value)} {t kt et : TypeId}
theorem LMap.lt (h : LMap kenc ok w b l) : b < w.heap.size := by
  obtain ⟨es, clock, h1, _⟩ := h
  exact (Array.getElem?_eq_some_iff.1 h1).1
theorem LMap.block (h : LMap kenc ok w b l) (e : w'.heap[b]? = w.heap[b]?) : LMap kenc ok w' b l := by
  obtain ⟨es, clock, h1, h2⟩ := h
  exact ⟨es, clock, e.trans h1, h2⟩
theorem LMap.ext (h : LMap kenc ok w b l) (e : Ext w w') : LMap kenc ok w' b l := h.block (e.block b h.lt)
theorem LMap.but (h : LMap kenc ok w b l) {S : Nat → Prop} (e : ButS S w w') (hs : ¬ S b) : LMap kenc ok w' b l := h.block (e.block b h.lt hs)
theorem LMap.made (w : World) : LMap kenc ok (w.alloc (.map #[] 0)) w.heap.size [] :=
  ⟨#[], 0, heap_alloc_new w _, rfl, by simp, by simp, MapKept.stamped_empty _⟩
theorem ent_at {es : Array MapEntry} (h : es.toList.map (fun e => (e.key, e.val)) = l.map (fun p => (kenc p.1, p.2))) {j : Nat} {e : MapEntry} (hj : es.toList[j]? = some e) : ∃ p, l[j]? = some p ∧ e.key = kenc p.1 ∧ e.val = p.2 := by
  have := congrArg (fun x => x[j]?) h
  simp only [List.getElem?_map, hj, Option.map_some] at this
  obtain ⟨p, hp, e1⟩ := Option.map_eq_some_iff.1 this.symm
  exact ⟨p, hp, (congrArg Prod.fst e1).symm, (congrArg Prod.snd e1).symm⟩
theorem ent_keyed (K : KEnc P kt kenc ok) (hok : ∀ p ∈ l, ok p.1) {es : Array MapEntry} (h : es.toList.map (fun e => (e.key, e.val)) = l.map (fun p => (kenc p.1, p.2))) : ∀ e ∈ es.toList, ∃ x, keyOf P kt e.key = some x := fun e he => by
  obtain ⟨j, hj⟩ := List.mem_iff_getElem?.1 he
  obtain ⟨p, h1, h2, _⟩ := ent_at h hj
  rw [h2]
  exact K.of _ (hok p (List.mem_of_getElem? h1))
variable [DecidableEq α]
theorem LMap.look (h : LMap kenc ok w b l) (KE : KEnc P kt kenc ok) (ht : P.underlying t = some (.map kt et)) {z : Value} (hz : (zeroValue et).run P w = .ok z w) (a : α) (ha : ok a) (c : Bool) :
    (Instr.lookup t (.map (some b)) (kenc a) c).run P w = .ok (if c then .tuple #[(getL l a).getD z, .bool (getL l a).isSome] else (getL l a).getD z) w := by
  obtain ⟨es, clock, h1, h2, h3, h4, h5⟩ := h
  obtain ⟨la, hla⟩ := KE.of a ha
  have hck := KE.keyed.check w es.isEmpty hla
  rcases KE.keyed.find w hla es.toList (ent_keyed KE h4 h2) with ⟨q1, q2⟩ | ⟨j, e, q1, q2, q3⟩
  · have hn : getL l a = none := by
      rw [getL_none]
      intro hm
      obtain ⟨p, hp, rfl⟩ := List.mem_map.1 hm
      obtain ⟨j, hj⟩ := List.mem_iff_getElem?.1 hp
      have hlen : es.toList.length = l.length := by have := congrArg List.length h2; simpa using this
      have hj2 := (List.getElem?_eq_some_iff.1 hj).1
      obtain ⟨e, he⟩ : ∃ e, es.toList[j]? = some e := ⟨_, List.getElem?_eq_getElem (by omega)⟩
      obtain ⟨p', h6, h7, _⟩ := ent_at h2 he
      rw [hj] at h6
      cases h6
      exact q2 e (List.mem_of_getElem? he) h7
    rw [hn]
    simp only [Instr.lookup, Sem.run_bind, run_underlying ht, Result.andThen_ok, Sem.run_pure, getObj, Sem.run, h1, hck, q1, hz]
    cases c <;> rfl
  · obtain ⟨p, h6, h7, h8⟩ := ent_at h2 q2
    have e1 := KE.inj _ _ (q3.symm.trans h7)
    have hg : getL l a = some e.val := getL_at h3 (j := j) (by rw [h6, e1, h8])
    rw [hg]
    simp only [Instr.lookup, Sem.run_bind, run_underlying ht, Result.andThen_ok, Sem.run_pure, getObj, Sem.run, h1, hck, q1]
    cases c <;> rfl
theorem LMap.upd (h : LMap kenc ok w b l) (KE : KEnc P kt kenc ok) (ht : P.underlying t = some (.map kt et)) (a : α) (ha : ok a) (v : Value) :
    ∃ o, (Instr.mapUpdate t (.map (some b)) (kenc a) v).run P w = .ok () (K.setMap w b o) ∧ LMap kenc ok (K.setMap w b o) b (putL l a v) := by
  obtain ⟨es, clock, h1, h2, h3, h4, h5⟩ := h
  have hb : b < w.heap.size := (Array.getElem?_eq_some_iff.1 h1).1
  obtain ⟨la, hla⟩ := KE.of a ha
  have hck := KE.keyed.check w false hla
  rcases KE.keyed.find w hla es.toList (ent_keyed KE h4 h2) with ⟨q1, q2⟩ | ⟨j, e, q1, q2, q3⟩
  · have hn : a ∉ l.map (·.1) := by
      intro hm
      obtain ⟨p, hp, rfl⟩ := List.mem_map.1 hm
      obtain ⟨j, hj⟩ := List.mem_iff_getElem?.1 hp
      have hlen : es.toList.length = l.length := by have := congrArg List.length h2; simpa using this
      have hj2 := (List.getElem?_eq_some_iff.1 hj).1
      obtain ⟨e, he⟩ : ∃ e, es.toList[j]? = some e := ⟨_, List.getElem?_eq_getElem (by omega)⟩
      obtain ⟨p', h6, h7, _⟩ := ent_at h2 he
      rw [hj] at h6
      cases h6
      exact q2 e (List.mem_of_getElem? he) h7
    refine ⟨.map (es.push { key := kenc a, val := v, born := clock }) (clock + 1), ?_, ?_⟩
    · simp only [Instr.mapUpdate, Sem.run_bind, run_underlying ht, Result.andThen_ok, getObj, Sem.run, h1, hck, q1, setObj]
      rfl
    · refine ⟨_, _, by simp [K.setMap, hb]; first | exact ⟨rfl, rfl⟩ | rfl, ?_, putL_nodup h3 a v, fun p hp => ?_, MapKept.stamped_push h5 q2⟩
      · rw [putL_new hn, Array.toList_push, List.map_append, List.map_append, h2]
        rfl
      · rw [putL_new hn] at hp
        rcases List.mem_append.1 hp with hp | hp
        · exact h4 p hp
        · rw [List.mem_singleton.1 hp]; exact ha
  · obtain ⟨p, h6, h7, h8⟩ := ent_at h2 q2
    have e1 := KE.inj _ _ (q3.symm.trans h7)
    have hj' : es[j]? = some e := by simpa using q2
    have hst := KE.keyed.stays w hla
    have hpa : l[j]? = some (a, p.2) := by rw [h6, e1]
    refine ⟨.map (es.modify j fun e => { e with key := kenc a, val := v }) clock, ?_, ?_⟩
    · simp only [Instr.mapUpdate, Sem.run_bind, run_underlying ht, Result.andThen_ok, getObj, Sem.run, h1, hck, q1, setObj, hj', Option.map_some, Option.getD_some, q3, hst]
      rfl
    · have ST : MapKept.Stamped (es.modify j fun e => { e with key := kenc a, val := v }) clock := MapKept.stamped_modify h5 j (fun e => { e with key := kenc a, val := v }) (fun _ _ => rfl) fun e' _ he' => by
        rw [hj'] at he'
        cases he'
        exact q3.symm
      refine ⟨_, _, by simp [K.setMap, hb]; first | exact ⟨rfl, rfl⟩ | rfl, ?_, putL_nodup h3 a v, fun p hp => ?_, by first | exact ST | simpa using ST⟩
      · rw [putL_at h3 hpa v, Array.toList_modify]
        apply List.ext_getElem?
        intro i
        have h9 := congrArg (fun x => x[i]?) h2
        simp only [List.getElem?_map, List.getElem?_modify] at h9 ⊢
        by_cases hi : j = i
        · subst hi
          rw [q2, hpa]
          simp
        · simp [hi] at h9 ⊢
          exact h9
      · have : p.1 ∈ (putL l a v).map (·.1) := List.mem_map.2 ⟨p, hp, rfl⟩
        rw [putL_keys, if_pos (List.mem_map.2 ⟨_, List.mem_of_getElem? hpa, rfl⟩)] at this
        obtain ⟨y, hy, e⟩ := List.mem_map.1 this
        rw [← e]
        exact h4 y hy
end
section
variable {α : Type} {kenc : α → Value} {ok : α → Prop} {P : Program} {w w' : World} {b : Nat} {l : List (α × Value)}
/-- A range over the map at b, its iterator in block r: what has been met, what is left. -/
def ItSt (kenc : α → Value) (ok : α → Prop) (w : World) (r b : Nat) (l done left : List (α × Value)) : Prop :=
  ∃ es clock since seen c0, w.heap[b]? = some (.map es clock) ∧ es.toList.map (fun e => (e.key, e.val)) = l.map (fun p => (kenc p.1, p.2)) ∧ (l.map (·.1)).Nodup ∧ (∀ p ∈ l, ok p.1) ∧ MapKept.Stamped es clock ∧
    w.heap[r]? = some (.mapIter (some b) since seen c0) ∧ (∀ x ∈ es.toList, x.born < since) ∧ (since ≤ c0 ∧ since ≤ clock) ∧ (done ++ left).Perm l ∧ ((leftOf es seen).toList.map fun e => (e.key, e.val)) = left.map fun p => (kenc p.1, p.2)
theorem ItSt.lmap {r : Nat} {done left : List (α × Value)} (h : ItSt kenc ok w r b l done left) : LMap kenc ok w b l := by
  obtain ⟨es, clock, since, seen, c0, h1, h2, h3, h4, h5, _⟩ := h
  exact ⟨es, clock, h1, h2, h3, h4, h5⟩
theorem ItSt.block {r : Nat} {done left : List (α × Value)} (h : ItSt kenc ok w r b l done left) (e1 : w'.heap[b]? = w.heap[b]?) (e2 : w'.heap[r]? = w.heap[r]?) : ItSt kenc ok w' r b l done left := by
  obtain ⟨es, clock, since, seen, c0, h1, h2, h3, h4, h5, h6, h7⟩ := h
  exact ⟨es, clock, since, seen, c0, e1.trans h1, h2, h3, h4, h5, e2.trans h6, h7⟩
theorem LMap.len (h : LMap kenc ok w b l) {mt kt et : TypeId} (hm : P.underlying mt = some (.map kt et)) (ty : TypeId) : (Builtin.len_ #[mt] ty #[.map (some b)]).run P w = .ok (.int .i64 (l.length : Nat)) w := by
  obtain ⟨es, clock, h1, h2, _⟩ := h
  have hlen : es.size = l.length := by have := congrArg List.length h2; simpa using this
  simp [Builtin.len_, run_underlying hm, MapKept.run_getObj_map h1, goInt, hlen]
theorem LMap.range (h : LMap kenc ok w b l) {t kt et : TypeId} (ht : P.underlying t = some (.map kt et)) :
    ∃ o, (Instr.range t (.map (some b))).run P w = .ok (.pointer (some ⟨w.heap.size, 0, none⟩)) (w.alloc o) ∧ ItSt kenc ok (w.alloc o) w.heap.size b l [] l := by
  have hlt := h.lt
  obtain ⟨es, clock, h1, h2, h3, h4, h5⟩ := h
  refine ⟨.mapIter (some b) clock #[] clock, run_range_map w t kt et b es clock ht h1, es, clock, clock, #[], clock, ?_, h2, h3, h4, h5, heap_alloc_new w _, h5.1, ⟨Nat.le_refl _, Nat.le_refl _⟩, List.Perm.refl _, ?_⟩
  · rw [Below.heap_alloc w _ b hlt]; exact h1
  · rw [show leftOf es #[] = es by simp [leftOf]]
    exact h2
theorem filter_born : ∀ {L : List MapEntry} {j : Nat} {e : MapEntry}, (L.map (·.born)).Nodup → L[j]? = some e → L.filter (fun x => !decide (x.born = e.born)) = L.eraseIdx j
  | [], j, e, _, h => by simp at h
  | a :: L, j, e, hn, h => by
    obtain ⟨n1, n2⟩ := List.nodup_cons.1 hn
    cases j with
    | zero =>
      simp at h
      subst h
      rw [List.filter_cons, if_neg (by simp), List.eraseIdx_zero, List.tail_cons, List.filter_eq_self.2]
      intro x hx
      simp only [Bool.not_eq_true', decide_eq_false_iff_not]
      intro q
      exact n1 (List.mem_map.2 ⟨x, hx, q⟩)
    | succ j =>
      have h3 : L[j]? = some e := by simpa using h
      have h4 : ¬ a.born = e.born := fun q => n1 (List.mem_map.2 ⟨e, List.mem_of_getElem? h3, q.symm⟩)
      rw [List.filter_cons, if_pos (by simpa using h4), filter_born n2 h3, List.eraseIdx_cons_succ]
theorem map_erase {γ δ : Type} (f : γ → δ) (l : List γ) (j : Nat) : (l.eraseIdx j).map f = (l.map f).eraseIdx j := by
  rw [List.eraseIdx_eq_take_drop_succ, List.eraseIdx_eq_take_drop_succ, List.map_append, List.map_take, List.map_drop]
theorem perm_at {γ : Type} {l : List γ} {j : Nat} {p : γ} (h : l[j]? = some p) : l.Perm (p :: l.eraseIdx j) := by
  obtain ⟨hj, rfl⟩ := List.getElem?_eq_some_iff.1 h
  rw [List.eraseIdx_eq_take_drop_succ]
  have e : l = l.take j ++ l[j] :: l.drop (j + 1) := by rw [← List.drop_eq_getElem_cons hj, List.take_append_drop]
  exact (List.Perm.of_eq e).trans List.perm_middle
theorem ItSt.next {r : Nat} {done left : List (α × Value)} (h : ItSt kenc ok w r b l done left) (ty : TypeId) :
    (left = [] ∧ (Instr.next (.pointer (some ⟨r, 0, none⟩)) false ty).run P w = .ok (.tuple #[.bool false]) w) ∨
    ∃ p left' w', left.Perm (p :: left') ∧ (Instr.next (.pointer (some ⟨r, 0, none⟩)) false ty).run P w = .ok (.tuple #[.bool true, kenc p.1, p.2]) w' ∧ ItSt kenc ok w' r b l (done ++ [p]) left' ∧ ButS (fun x => x = r) w w' ∧
      ∀ W, W.heap[r]? = w'.heap[r]? → W.heap[b]? = w'.heap[b]? → (Instr.entry (.pointer (some ⟨r, 0, none⟩))).run P W = .ok (.tuple #[kenc p.1, p.2]) W := by
  obtain ⟨es, clock, since, seen, c0, h1, h2, h3, h4, h5, h6, h7, h8, h9, h10⟩ := h
  have hrb : r ≠ b := fun e => by rw [e, h1] at h6; cases h6
  have hrl : r < w.heap.size := (Array.getElem?_eq_some_iff.1 h6).1
  rcases run_next_at (P := P) w ty r b since c0 seen es clock h6 h1 h7 h8.1 with ⟨q1, q2⟩ | ⟨e, he, w1, hw1, q2⟩
  · left
    refine ⟨?_, q2⟩
    have := congrArg List.length h10
    rw [List.length_map, List.length_map, Array.length_toList, q1] at this
    exact List.eq_nil_of_length_eq_zero this.symm
  · right
    have hes : e ∈ es.toList := by
      simp only [leftOf, Array.toList_filter, List.mem_filter] at he
      exact he.1
    -- which entry of left it is
    obtain ⟨j, hj⟩ := List.mem_iff_getElem?.1 he
    have hjl : ∃ p, left[j]? = some p ∧ e.key = kenc p.1 ∧ e.val = p.2 := by
      have := congrArg (fun x => x[j]?) h10
      simp only [List.getElem?_map, hj, Option.map_some] at this
      obtain ⟨p, hp, e1⟩ := Option.map_eq_some_iff.1 this.symm
      exact ⟨p, hp, (congrArg Prod.fst e1).symm, (congrArg Prod.snd e1).symm⟩
    obtain ⟨p, hp, hk, hv⟩ := hjl
    have hperm : left.Perm (p :: left.eraseIdx j) := perm_at hp
    have h1' : (ChangeMaps.setBlock w1 r (.mapIter (some b) since (seen.push e.born) clock)).heap[b]? = some (.map es clock) := by
      have : w1.heap[b]? = some (.map es clock) := by rcases hw1 with rfl | rfl <;> exact h1
      simp only [ChangeMaps.setBlock]
      rw [Array.getElem?_setIfInBounds_ne hrb]
      exact this
    have h6' : (ChangeMaps.setBlock w1 r (.mapIter (some b) since (seen.push e.born) clock)).heap[r]? = some (.mapIter (some b) since (seen.push e.born) clock) := by
      have : r < w1.heap.size := by rcases hw1 with rfl | rfl <;> exact hrl
      simp [ChangeMaps.setBlock, this]
    refine ⟨p, left.eraseIdx j, _, hperm, by rw [← hk, ← hv]; exact q2, ⟨es, clock, since, seen.push e.born, clock, h1', h2, h3, h4, h5, h6', h7, ?_, ?_, ?_⟩, ?_, fun W e1 e2 => ?_⟩
    · exact ⟨h8.2, h8.2⟩
    · rw [List.append_assoc]
      exact ((List.Perm.refl done).append hperm.symm).trans h9
    · have hnd : ((leftOf es seen).toList.map (·.born)).Nodup := by
        simp only [leftOf, Array.toList_filter]
        exact h5.2.1.sublist (List.filter_sublist.map _)
      have e9 : (leftOf es (seen.push e.born)).toList = (leftOf es seen).toList.eraseIdx j := by
        rw [← filter_born hnd hj]
        simp only [leftOf, Array.toList_filter, List.filter_filter]
        apply List.filter_congr
        intro x _
        simp only [Array.contains_push]
        by_cases q : x.born = e.born <;> simp [q]
      rw [e9, map_erase, h10, ← map_erase]
    · rcases hw1 with rfl | rfl
      · exact ⟨rfl, rfl, rfl, by simp [ChangeMaps.setBlock], fun x _ hx => by simp only [ChangeMaps.setBlock]; rw [Array.getElem?_setIfInBounds_ne (Ne.symm hx)]⟩
      · exact ⟨rfl, rfl, rfl, by simp [ChangeMaps.setBlock], fun x _ hx => by simp only [ChangeMaps.setBlock]; rw [Array.getElem?_setIfInBounds_ne (Ne.symm hx)]; rfl⟩
    · rw [← hk, ← hv]
      exact run_entry_at W r b since seen es clock e (e1.trans h6') (e2.trans h1') hes h5.2.1
theorem strEnc {P : Program} {k : TypeId} (hk : P.underlying k = some .string) : KEnc P k Value.string (fun s => s.size ≤ maxLen) :=
  ⟨string_keyed hk, fun s h => ⟨_, Go.WideMaps.keyOf_string_mk hk h⟩, fun a b h => by cases h; rfl⟩
end
end Go.Proofs.YtlalgaioiapjmaaGreatDoor
namespace Go.Proofs.YtlalgaioiapjmaaGreatDoor.K
/-- What a rule uses: predicates, each with its number of terms. -/
def usesB (ls : List Lit) : List (ByteArray × Nat) := (ls.filter fun l => decide (l.kind = 1) || decide (l.kind = 2)).map fun l => (l.atom.pred, l.atom.terms.length)
def usesR (r : Rule) : List (ByteArray × Nat) := (r.head.pred, r.head.terms.length) :: usesB r.body
abbrev AL (α : Type) := List (ByteArray × α)
def lookA {α : Type} : AL α → ByteArray → Option α
  | [], _ => none
  | (k, v) :: l, x => if k = x then some v else lookA l x
/-- An entry is written: in its place, or behind the others. -/
def putA {α : Type} : AL α → ByteArray → α → AL α
  | [], x, v => [(x, v)]
  | (k, u) :: l, x, v => if k = x then (k, v) :: l else (k, u) :: putA l x v
def fitA (a : AL Nat) (k : ByteArray) (n : Nat) : AL Nat × Bool :=
  match lookA a k with
  | some m => (a, decide (m = n))
  | none => (putA a k n, true)
def fitU : AL Nat → List (ByteArray × Nat) → AL Nat × Bool
  | a, [] => (a, true)
  | a, (k, n) :: us => if (fitA a k n).2 = true then fitU (fitA a k n).1 us else ((fitA a k n).1, false)
/-- The variables that are bound. -/
def boundR (r : Rule) : List ByteArray := bodyVars (r.body.filter fun l => decide (l.kind = 1))
def aggK (k : Int) : Bool := decide (4 ≤ k) && decide (k ≤ 7)
def varK (k : Int) : Bool := decide (k = 1) || decide (k = 5) || decide (k = 6) || decide (k = 7)
def breachB (t : Term) (vs : List ByteArray) (blank : Bool) : Bool :=
  if t.kind = 2 then !blank else varK t.kind && !vs.contains t.text
def headBad (r : Rule) (vs : List ByteArray) (t : Term) : Bool := breachB t vs false || (aggK t.kind && r.body.isEmpty)
def negBad (vs : List ByteArray) (t : Term) : Bool := decide (t.kind = 1) && !vs.contains t.text
def cmpBad (vs : List ByteArray) (t : Term) : Bool := (decide (t.kind = 1) || decide (t.kind = 2)) && breachB t vs false
def litBad (vs : List ByteArray) (l : Lit) : Bool :=
  if l.kind = 2 then l.atom.terms.any (negBad vs) else if l.kind = 3 then cmpBad vs l.left || cmpBad vs l.right else false
def safeR (r : Rule) : Bool := !(r.head.terms.any (headBad r (boundR r)) || r.body.any (litBad (boundR r)))
def checkGo : List Rule → AL Nat → Int
  | [], _ => 0
  | r :: rs, a =>
    if mayRule r ≠ 0 then mayRule r
    else if (fitU a (usesR r)).2 = false then 110
    else if 512 < (fitU a (usesR r)).1.length then 112
    else if safeR r = false then 111
    else checkGo rs (fitU a (usesR r)).1
def checkP (rs : List Rule) : Int := if 1024 < rs.length then 81 else checkGo rs []
/-! graph -/
structure Edge where
  src : Int
  dst : Int
  wt : Int
  deriving DecidableEq
/-- To which nodes each one's edges lead. -/
def adj (es : List Edge) (v : Nat) : List Nat := (es.filter fun x => decide (x.src = (v : Int))).map fun x => x.dst.toNat
structure WSt where
  met : List Nat
  low : List Nat
  part : List (Option Nat)
  opn : List Nat
  met0 : Nat
  all : Nat
  way : List (Nat × Nat)
  deriving DecidableEq
def meetS (s : WSt) (v : Nat) : WSt := { s with met0 := s.met0 + 1, met := s.met.set v (s.met0 + 1), low := s.low.set v (s.met0 + 1), opn := v :: s.opn }
/-- The nodes from one on that are open are a part. -/
def closeS : List Nat → Nat → List (Option Nat) → Nat → List Nat × List (Option Nat)
  | [], _, p, _ => ([], p)
  | x :: o, v, p, a => if x = v then (o, p.set x (some a)) else closeS o v (p.set x (some a)) a
def popS (s : WSt) (v : Nat) (rest : List (Nat × Nat)) : WSt :=
  let low := match rest with
    | [] => s.low
    | (u, _) :: _ => s.low.set u (min (s.low.getD u 0) (s.low.getD v 0))
  if low.getD v 0 = s.met.getD v 0 then
    { s with low := low, way := rest, opn := (closeS s.opn v s.part s.all).1, part := (closeS s.opn v s.part s.all).2, all := s.all + 1 }
  else { s with low := low, way := rest }
/-- One step of the search for parts. -/
def stepW (g : Nat → List Nat) (s : WSt) : WSt :=
  match s.way with
  | [] => s
  | (v, k) :: rest =>
    match (g v)[k]? with
    | none => popS s v rest
    | some t =>
      if s.met.getD t 0 = 0 then { meetS s t with way := (t, 0) :: (v, k + 1) :: rest }
      else if s.part.getD t none = none then { s with low := s.low.set v (min (s.low.getD v 0) (s.met.getD t 0)), way := (v, k + 1) :: rest }
      else { s with way := (v, k + 1) :: rest }
def runW (g : Nat → List Nat) : Nat → WSt → WSt
  | 0, s => s
  | f + 1, s => runW g f (stepW g s)
def fuelW (g : Nat → List Nat) (n : Nat) : Nat := ((List.range n).map fun v => (g v).length + 2).sum
def fromW (g : Nat → List Nat) (n : Nat) (s : WSt) (v : Nat) : WSt := runW g (fuelW g n) { meetS s v with way := [(v, 0)] }
def foundGo (g : Nat → List Nat) (n : Nat) : List Nat → WSt → WSt
  | [], s => s
  | v :: vs, s => foundGo g n vs (if s.met.getD v 0 = 0 then fromW g n s v else s)
def foundW (n : Nat) (es : List Edge) : WSt :=
  foundGo (adj es) n (List.range n) ⟨List.replicate n 0, List.replicate n 0, List.replicate n none, [], 0, 0, []⟩
def partOf (s : WSt) (v : Int) : Nat := (s.part.getD v.toNat none).getD 0
/-- Is there an edge with weight within a part? -/
def roundW (s : WSt) (es : List Edge) : Bool := es.any fun x => decide (partOf s x.src = partOf s x.dst) && decide (0 < x.wt)
/-! strata -/
/-! print -/
def digitsB (n : Nat) : ByteArray := ⟨(Nat.toDigits 10 n).map (fun c => c.toNat.toUInt8) |>.toArray⟩
def newName (m : AL ByteArray) : ByteArray := ⟨#[86]⟩ ++ digitsB (m.length + 1)
def renT (m : AL ByteArray) (t : Term) : AL ByteArray × Term :=
  if varK t.kind then
    match lookA m t.text with
    | some v => (m, { t with text := v })
    | none => (putA m t.text (newName m), { t with text := newName m })
  else (m, t)
def renTs : AL ByteArray → List Term → AL ByteArray × List Term
  | m, [] => (m, [])
  | m, t :: ts => ((renTs (renT m t).1 ts).1, (renT m t).2 :: (renTs (renT m t).1 ts).2)
def renL (m : AL ByteArray) (l : Lit) : AL ByteArray × Lit :=
  if l.kind = 3 then ((renT (renT m l.left).1 l.right).1, { l with left := (renT m l.left).2, right := (renT (renT m l.left).1 l.right).2, atom := ⟨⟨#[]⟩, []⟩ })
  else ((renTs m l.atom.terms).1, { l with atom := { l.atom with terms := (renTs m l.atom.terms).2 } })
def renLs : AL ByteArray → List Lit → List Lit
  | _, [] => []
  | m, l :: ls => (renL m l).2 :: renLs (renL m l).1 ls
/-! lint -/
section
variable (lt : ByteArray → ByteArray → Bool)
abbrev Tell := Nat × ByteArray
def e0 : ByteArray := ⟨#[]⟩
def numbered {α : Type} (l : List α) : List (Nat × α) := l.zipIdx.map fun p => (p.2, p.1)
/-- The variables of a rule where they stand. -/
def occT (at_ : Nat) (ts : List Term) : List Tell := (termVars ts).map fun v => (at_, v)
def occL (p : Nat × Lit) : List Tell := if p.2.kind = 3 then occT p.1 [p.2.left, p.2.right] else occT p.1 p.2.atom.terms
def occR (r : Rule) : List Tell := occT 0 r.head.terms ++ (numbered r.body).flatMap occL
def withinL (r s : Rule) : Bool := decide ((laid r s).1 = 0) && (laid r s).2.isSome
structure Finding where
  kind : Int
  rule : Nat
  literal : Nat
  name : ByteArray
  deriving DecidableEq
end
end Go.Proofs.YtlalgaioiapjmaaGreatDoor.K
namespace Go.Proofs.YtlalgaioiapjmaaGreatDoor.K
def mu (g : Nat → List Nat) (n : Nat) (s : WSt) : Nat :=
  (((List.range n).filter fun v => decide (s.met.getD v 0 = 0)).map fun v => (g v).length + 2).sum + (s.way.map fun p => (g p.1).length - p.2 + 1).sum
theorem filter_drop {n t : Nat} (p q : Nat → Bool) (f : Nat → Nat) (ht : t < n) (hp : p t = true) (hq : ∀ v, q v = true → p v = true ∧ v ≠ t) :
    (((List.range n).filter q).map f).sum + f t ≤ (((List.range n).filter p).map f).sum := by
  induction n with
  | zero => omega
  | succ n ih =>
    rw [List.range_succ, List.filter_append, List.filter_append, List.map_append, List.map_append, List.sum_append, List.sum_append]
    by_cases e : t = n
    · subst e
      have h1 : (((List.range t).filter q).map f).sum ≤ (((List.range t).filter p).map f).sum := by
        clear ih
        generalize List.range t = l
        induction l with
        | nil => simp
        | cons a l ih2 =>
          rw [List.filter_cons, List.filter_cons]
          by_cases h : q a = true
          · rw [if_pos h, if_pos (hq a h).1, List.map_cons, List.map_cons, List.sum_cons, List.sum_cons]; omega
          · rw [if_neg h]
            split
            · rw [List.map_cons, List.sum_cons]; omega
            · exact ih2
      have h2 : q t = false := by
        cases h : q t with
        | false => rfl
        | true => exact absurd rfl (hq t h).2
      simp [h2, hp]
      omega
    · have h1 := ih (by omega)
      have h2 : (([n].filter q).map f).sum ≤ (([n].filter p).map f).sum := by
        by_cases h : q n = true
        · simp [h, (hq n h).1]
        · simp [h]
      omega
structure WInv (n : Nat) (g : Nat → List Nat) (start m0 : Nat) (s : WSt) : Prop where
  lm : s.met.length = n
  ll : s.low.length = n
  lp : s.part.length = n
  way : ∀ p ∈ s.way, p.1 < n ∧ p.2 ≤ (g p.1).length
  sub : (s.way.map Prod.fst).Sublist s.opn
  nd : s.opn.Nodup
  opn : ∀ v, v < n → (v ∈ s.opn ↔ s.met.getD v 0 ≠ 0 ∧ s.part.getD v none = none)
  olt : ∀ v ∈ s.opn, v < n
  unm : ∀ v, v < n → s.met.getD v 0 = 0 → s.part.getD v none = none
  clo : ∀ v, v < n → ∀ a, s.part.getD v none = some a → a < s.all
  bot : s.opn ≠ [] → s.opn.getLast? = some start ∧ (s.way.map Prod.fst).getLast? = some start
  high : ∀ v ∈ s.opn, m0 ≤ s.low.getD v 0 ∧ m0 ≤ s.met.getD v 0
  root : start ∈ s.opn → s.low.getD start 0 = m0 ∧ s.met.getD start 0 = m0
  low0 : m0 ≤ s.met0
  mle : ∀ v, s.met.getD v 0 ≤ s.met0
  pos : 0 < m0
theorem getD_set {α : Type} (l : List α) (i j : Nat) (x d : α) : (l.set i x).getD j d = if i = j ∧ j < l.length then x else l.getD j d := by
  simp only [List.getD_eq_getElem?_getD, List.getElem?_set]
  by_cases h : i = j
  · subst h
    by_cases h2 : i < l.length
    · simp [h2]
    · simp [h2]
  · simp [h]
/-- What closing leaves: the open nodes behind v, the parts told. -/
theorem closeS_spec : ∀ (o : List Nat) (v : Nat) (p : List (Option Nat)) (a : Nat), v ∈ o → o.Nodup →
    ∃ A B, o = A ++ v :: B ∧ (closeS o v p a).1 = B ∧ (closeS o v p a).2.length = p.length ∧ ∀ x, x < p.length → (closeS o v p a).2.getD x none = if x ∈ A ++ [v] then some a else p.getD x none
  | [], v, p, a, h, _ => by cases h
  | y :: o, v, p, a, h, hn => by
    by_cases e : y = v
    · subst e
      refine ⟨[], o, rfl, by simp [closeS], by simp [closeS], fun x hx => ?_⟩
      simp only [closeS, if_pos, getD_set, List.nil_append, List.mem_singleton]
      by_cases h2 : y = x
      · subst h2; simp [hx]
      · simp [h2, Ne.symm h2]
    · have hv : v ∈ o := by
        rcases List.mem_cons.1 h with h | h
        · exact absurd h.symm e
        · exact h
      obtain ⟨A, B, e1, e2, e3, e4⟩ := closeS_spec o v (p.set y (some a)) a hv (List.nodup_cons.1 hn).2
      refine ⟨y :: A, B, by rw [e1]; rfl, by simp only [closeS, if_neg e]; exact e2, by simp only [closeS, if_neg e]; rw [e3]; simp, fun x hx => ?_⟩
      simp only [closeS, if_neg e]
      rw [e4 x (by simpa using hx), getD_set]
      by_cases h2 : x ∈ A ++ [v]
      · rw [if_pos h2, if_pos (by simp at h2 ⊢; exact .inr h2)]
      · rw [if_neg h2]
        by_cases h3 : y = x
        · subst h3; simp [hx]
        · rw [if_neg (fun h => h3 h.1), if_neg]
          simp at h2 ⊢
          exact ⟨Ne.symm h3, h2⟩
theorem mu_way {g : Nat → List Nat} {n : Nat} {s s' : WSt} (h : s'.met = s.met) : mu g n s' + (s.way.map fun p => (g p.1).length - p.2 + 1).sum = mu g n s + (s'.way.map fun p => (g p.1).length - p.2 + 1).sum := by
  unfold mu
  rw [h]
  omega
theorem popS_met (s : WSt) (v : Nat) (rest : List (Nat × Nat)) : (popS s v rest).met = s.met ∧ (popS s v rest).way = rest := by
  unfold popS
  cases rest <;> simp only <;> split <;> exact ⟨rfl, rfl⟩
theorem step_mu {n : Nat} {g : Nat → List Nat} {start m0 : Nat} {s : WSt} (h : WInv n g start m0 s) (hg : ∀ v, v < n → ∀ t ∈ g v, t < n) (hw : s.way ≠ []) : mu g n (stepW g s) < mu g n s := by
  obtain ⟨⟨v, k⟩, rest, e⟩ : ∃ p rest, s.way = p :: rest := by
    cases hc : s.way with
    | nil => exact absurd hc hw
    | cons p r => exact ⟨p, r, rfl⟩
  have hv := h.way (v, k) (by rw [e]; simp)
  unfold stepW
  rw [e]
  simp only
  cases ht : (g v)[k]? with
  | none =>
    simp only
    have h1 := mu_way (g := g) (n := n) (s := s) (popS_met s v rest).1
    rw [(popS_met s v rest).2, e] at h1
    simp only [List.map_cons, List.sum_cons] at h1
    omega
  | some t =>
    simp only
    obtain ⟨hk, hkt⟩ := List.getElem?_eq_some_iff.1 ht
    have htn : t < n := hg v hv.1 t (List.mem_of_getElem? ht)
    by_cases h0 : s.met.getD t 0 = 0
    · rw [if_pos h0]
      unfold mu
      simp only [meetS, e, List.map_cons, List.sum_cons]
      have := filter_drop (n := n) (t := t) (fun v => decide (s.met.getD v 0 = 0)) (fun v => decide ((s.met.set t (s.met0 + 1)).getD v 0 = 0)) (fun v => (g v).length + 2) htn (by simpa using h0) (fun x hx => by
        simp only [decide_eq_true_eq] at hx ⊢
        rw [getD_set] at hx
        by_cases e2 : t = x
        · subst e2
          rw [if_pos ⟨rfl, by rw [h.lm]; exact htn⟩] at hx
          omega
        · rw [if_neg (fun q => e2 q.1)] at hx
          exact ⟨hx, Ne.symm e2⟩)
      omega
    · rw [if_neg h0]
      split
      · have h1 := mu_way (g := g) (n := n) (s := s) (s' := { s with low := s.low.set v (min (s.low.getD v 0) (s.met.getD t 0)), way := (v, k + 1) :: rest }) rfl
        rw [e] at h1
        simp only [List.map_cons, List.sum_cons] at h1
        omega
      · have h1 := mu_way (g := g) (n := n) (s := s) (s' := { s with way := (v, k + 1) :: rest }) rfl
        rw [e] at h1
        simp only [List.map_cons, List.sum_cons] at h1
        omega
theorem sub_behind {v : Nat} {r : List Nat} : ∀ {A B : List Nat}, (v :: r).Sublist (A ++ v :: B) → v ∉ A → r.Sublist B
  | [], _, h, _ => List.cons_sublist_cons.1 h
  | a :: A, B, h, hn => by
    rw [List.cons_append] at h
    cases h with
    | cons _ h => exact sub_behind h (fun q => hn (List.mem_cons_of_mem _ q))
    | cons_cons _ h => simp at hn
theorem last_cons {α : Type} {a : α} {l : List α} (h : l ≠ []) : (a :: l).getLast? = l.getLast? := by
  cases l with
  | nil => exact absurd rfl h
  | cons b l => simp [List.getLast?_cons_cons]
theorem mem_last {α : Type} {a : α} {l : List α} (h : l.getLast? = some a) : a ∈ l := List.mem_of_getLast? h
def upLow (s : WSt) (v : Nat) : List (Nat × Nat) → List Nat
  | [] => s.low
  | (u, _) :: _ => s.low.set u (min (s.low.getD u 0) (s.low.getD v 0))
theorem popS_eq (s : WSt) (v : Nat) (rest : List (Nat × Nat)) : popS s v rest =
    if (upLow s v rest).getD v 0 = s.met.getD v 0 then
      { s with low := upLow s v rest, way := rest, opn := (closeS s.opn v s.part s.all).1, part := (closeS s.opn v s.part s.all).2, all := s.all + 1 }
    else { s with low := upLow s v rest, way := rest } := by
  unfold popS upLow
  cases rest <;> rfl
theorem WInv.step {n : Nat} {g : Nat → List Nat} {start m0 : Nat} {s : WSt} (h : WInv n g start m0 s) (hg : ∀ v, v < n → ∀ t ∈ g v, t < n) : WInv n g start m0 (stepW g s) := by
  cases hc : s.way with
  | nil => unfold stepW; rw [hc]; exact h
  | cons p rest =>
    obtain ⟨v, k⟩ := p
    have hw := h.way
    have hsub := h.sub
    have hbot := h.bot
    rw [hc] at hw hsub hbot
    simp only [List.map_cons] at hsub hbot
    have hv := hw (v, k) (by simp)
    have vo : v ∈ s.opn := hsub.subset (by simp)
    have hne : s.opn ≠ [] := fun e => by rw [e] at vo; cases vo
    have hso := mem_last (hbot hne).1
    unfold stepW
    rw [hc]
    simp only
    cases ht : (g v)[k]? with
    | none =>
      simp only
      have hl : (upLow s v rest).length = n ∧ (∀ x ∈ s.opn, m0 ≤ (upLow s v rest).getD x 0) ∧ (upLow s v rest).getD start 0 = m0 := by
        unfold upLow
        cases hr : rest with
        | nil => exact ⟨h.ll, fun x hx => (h.high x hx).1, (h.root hso).1⟩
        | cons q r =>
          obtain ⟨u, j⟩ := q
          have uo : u ∈ s.opn := hsub.subset (by rw [hr]; simp)
          have e1 := (h.high u uo).1
          have e2 := (h.high v vo).1
          refine ⟨by simp [h.ll], fun x hx => ?_, ?_⟩
          · simp only [getD_set]
            have := (h.high x hx).1
            split
            · omega
            · exact this
          · simp only [getD_set]
            have := (h.root hso).1
            split
            · rename_i q
              rw [q.1, this]
              omega
            · exact this
      obtain ⟨l1, l2, l3⟩ := hl
      have hrest : ∀ q ∈ rest, q.1 < n ∧ q.2 ≤ (g q.1).length := fun q hq => hw q (List.mem_cons_of_mem _ hq)
      have hlast : v ≠ start → (rest.map Prod.fst).getLast? = some start := fun hvs => by
        have := (hbot hne).2
        cases hr : rest with
        | nil => rw [hr] at this; simp at this; exact absurd this hvs
        | cons q r => rw [hr] at this; rw [last_cons (by simp)] at this; exact this
      rw [popS_eq]
      split
      · obtain ⟨A, B, e1, e2, e3, e4⟩ := closeS_spec s.opn v s.part s.all vo h.nd
        have hnd := h.nd
        rw [e1, List.nodup_append] at hnd
        obtain ⟨n1, n2, n3⟩ := hnd
        have vA : v ∉ A := fun q => n3 v q v (by simp) rfl
        have vB : v ∉ B := (List.nodup_cons.1 n2).1
        have inB : ∀ x, x ∈ s.opn → (x ∈ B ↔ x ∉ A ++ [v]) := fun x hx => by
          rw [e1] at hx
          simp only [List.mem_append, List.mem_cons, List.not_mem_nil, or_false, not_or] at hx ⊢
          constructor
          · intro q
            exact ⟨fun q2 => n3 x q2 x (by simp [q]) rfl, fun e => by subst e; exact vB q⟩
          · rintro ⟨q1, q2⟩
            rcases hx with hx | hx | hx
            · exact absurd hx q1
            · exact absurd hx q2
            · exact hx
        have Bo : ∀ x ∈ B, x ∈ s.opn := fun x hx => by rw [e1]; simp [hx]
        have ABo : ∀ x ∈ A ++ [v], x ∈ s.opn := fun x hx => by rw [e1]; simp at hx ⊢; rcases hx with hx | hx <;> simp [hx]
        exact {
          lm := h.lm
          ll := l1
          lp := e3.trans h.lp
          way := hrest
          sub := by
            show (rest.map Prod.fst).Sublist (closeS s.opn v s.part s.all).1
            rw [e2]
            rw [e1] at hsub
            exact sub_behind hsub vA
          nd := by
            show (closeS s.opn v s.part s.all).1.Nodup
            rw [e2]; exact (List.nodup_cons.1 n2).2
          opn := fun x hx => by
            show x ∈ (closeS s.opn v s.part s.all).1 ↔ s.met.getD x 0 ≠ 0 ∧ (closeS s.opn v s.part s.all).2.getD x none = none
            rw [e2, e4 x (by rw [h.lp]; exact hx)]
            constructor
            · intro q
              have q1 := Bo x q
              rw [if_neg ((inB x q1).1 q)]
              exact (h.opn x hx).1 q1
            · rintro ⟨q1, q2⟩
              split at q2
              · cases q2
              · rename_i q3
                exact (inB x ((h.opn x hx).2 ⟨q1, q2⟩)).2 q3
          olt := fun x hx => by
            have hx : x ∈ (closeS s.opn v s.part s.all).1 := hx
            rw [e2] at hx
            exact h.olt x (Bo x hx)
          unm := fun x hx h0 => by
            show (closeS s.opn v s.part s.all).2.getD x none = none
            have h0 : s.met.getD x 0 = 0 := h0
            rw [e4 x (by rw [h.lp]; exact hx), if_neg (fun q => ((h.opn x hx).1 (ABo x q)).1 h0)]
            exact h.unm x hx h0
          clo := fun x hx a ha => by
            have ha : (closeS s.opn v s.part s.all).2.getD x none = some a := ha
            rw [e4 x (by rw [h.lp]; exact hx)] at ha
            show a < s.all + 1
            split at ha
            · cases ha; omega
            · have := h.clo x hx a ha; omega
          bot := fun hb => by
            have hb : (closeS s.opn v s.part s.all).1 ≠ [] := hb
            rw [e2] at hb
            have q1 : B.getLast? = some start := by
              have := (hbot hne).1
              rw [e1, List.getLast?_append] at this
              rw [last_cons hb] at this
              cases hB : B.getLast? with
              | none => exact absurd (List.getLast?_eq_none_iff.1 hB) hb
              | some z => rw [hB] at this; simpa using this
            exact ⟨by show (closeS s.opn v s.part s.all).1.getLast? = _; rw [e2]; exact q1, hlast fun e => vB (by rw [e]; exact mem_last q1)⟩
          high := fun x hx => by
            have hx : x ∈ (closeS s.opn v s.part s.all).1 := hx
            rw [e2] at hx
            exact ⟨l2 x (Bo x hx), (h.high x (Bo x hx)).2⟩
          root := fun _ => ⟨l3, (h.root hso).2⟩
          low0 := h.low0
          mle := h.mle
          pos := h.pos }
      · rename_i hno
        have hvs : v ≠ start := fun e => hno (by subst e; rw [l3, (h.root hso).2])
        exact ⟨h.lm, l1, h.lp, hrest, (List.sublist_cons_self v _).trans hsub, h.nd, h.opn, h.olt, h.unm, h.clo, fun hb => ⟨(hbot hb).1, hlast hvs⟩, fun x hx => ⟨l2 x hx, (h.high x hx).2⟩, fun _ => ⟨l3, (h.root hso).2⟩, h.low0, h.mle, h.pos⟩
    | some t =>
      simp only
      obtain ⟨hk, hkt⟩ := List.getElem?_eq_some_iff.1 ht
      have htn : t < n := hg v hv.1 t (List.mem_of_getElem? ht)
      have hway : ∀ p ∈ (v, k + 1) :: rest, p.1 < n ∧ p.2 ≤ (g p.1).length := fun p hp => by
        rcases List.mem_cons.1 hp with rfl | hp
        · exact ⟨hv.1, hk⟩
        · exact hw p (List.mem_cons_of_mem _ hp)
      by_cases h0 : s.met.getD t 0 = 0
      · rw [if_pos h0]
        have tno : t ∉ s.opn := fun q => ((h.opn t htn).1 q).1 h0
        have hts : t ≠ start := fun e => tno (by rw [e]; exact hso)
        exact {
          lm := by simp [meetS, h.lm]
          ll := by simp [meetS, h.ll]
          lp := h.lp
          way := fun p hp => by
            rcases List.mem_cons.1 hp with rfl | hp
            · exact ⟨htn, Nat.zero_le _⟩
            · exact hway p hp
          sub := by simpa [meetS] using hsub
          nd := List.nodup_cons.2 ⟨tno, h.nd⟩
          opn := fun x hx => by
            simp only [meetS, List.mem_cons, getD_set, h.lm, hx, and_true]
            by_cases e : t = x
            · subst e
              have q := h.unm t htn h0
              rw [if_pos rfl]
              exact ⟨fun _ => ⟨by omega, q⟩, fun _ => .inl rfl⟩
            · simp only [if_neg e, h.opn x hx]
              constructor
              · rintro (q | q)
                · exact absurd q.symm e
                · exact q
              · exact .inr
          olt := fun x hx => by
            rcases List.mem_cons.1 hx with rfl | hx
            · exact htn
            · exact h.olt x hx
          unm := fun x hx q => by
            simp only [meetS, getD_set, h.lm, hx, and_true] at q
            split at q
            · omega
            · exact h.unm x hx q
          clo := h.clo
          bot := fun _ => by
            simp only [meetS, List.map_cons]
            rw [last_cons hne, last_cons (by simp)]
            exact hbot hne
          high := fun x hx => by
            have := h.low0
            simp only [meetS, getD_set, h.lm, h.ll]
            rcases List.mem_cons.1 hx with rfl | hx
            · simp only [true_and, htn, if_pos]
              omega
            · have e : t ≠ x := fun e => tno (by rw [e]; exact hx)
              rw [if_neg (fun q => e q.1), if_neg (fun q => e q.1)]
              exact h.high x hx
          root := fun _ => by
            simp only [meetS, getD_set]
            rw [if_neg (fun q => hts q.1), if_neg (fun q => hts q.1)]
            exact h.root hso
          low0 := by have := h.low0; show m0 ≤ s.met0 + 1; omega
          mle := fun x => by
            have := h.mle x
            simp only [meetS, getD_set]
            split <;> omega
          pos := h.pos }
      · rw [if_neg h0]
        split
        · rename_i hp
          have hto : t ∈ s.opn := (h.opn t htn).2 ⟨h0, hp⟩
          have e1 := (h.high t hto).2
          have e2 := (h.high v vo).1
          refine ⟨h.lm, by simp [h.ll], h.lp, hway, hsub, h.nd, h.opn, h.olt, h.unm, h.clo, hbot, fun x hx => ⟨?_, (h.high x hx).2⟩, fun _ => ⟨?_, (h.root hso).2⟩, h.low0, h.mle, h.pos⟩
          · simp only [getD_set]
            have := (h.high x hx).1
            split
            · omega
            · exact this
          · simp only [getD_set]
            have := (h.root hso).1
            split
            · rename_i q
              rw [q.1, this]
              omega
            · exact this
        · exact ⟨h.lm, h.ll, h.lp, hway, hsub, h.nd, h.opn, h.olt, h.unm, h.clo, hbot, h.high, h.root, h.low0, h.mle, h.pos⟩
theorem WInv.done {n : Nat} {g : Nat → List Nat} {start m0 : Nat} {s : WSt} (h : WInv n g start m0 s) (hw : s.way = []) : s.opn = [] := by
  cases ho : s.opn with
  | nil => rfl
  | cons a l =>
    have := (h.bot (by rw [ho]; simp)).2
    rw [hw] at this
    cases this
theorem step_keeps (g : Nat → List Nat) (s : WSt) (x : Nat) (h : s.met.getD x 0 ≠ 0) : (stepW g s).met.getD x 0 ≠ 0 := by
  unfold stepW
  split
  · exact h
  · rename_i v k rest hc
    split
    · rw [(popS_met s v rest).1]; exact h
    · split
      · simp only [meetS, getD_set]
        split
        · omega
        · exact h
      · split <;> exact h
theorem step_counts (g : Nat → List Nat) (s : WSt) : (stepW g s).met0 ≤ s.met0 + 1 ∧ (stepW g s).all ≤ s.all + 1 ∧ s.met0 ≤ (stepW g s).met0 ∧ s.all ≤ (stepW g s).all := by
  unfold stepW
  split
  · omega
  · rename_i v k rest hc
    split
    · rw [popS_eq]
      split
      · simp
      · simp
    · split
      · simp [meetS]
      · split <;> simp
end Go.Proofs.YtlalgaioiapjmaaGreatDoor.K
namespace Go.Proofs.YtlalgaioiapjmaaGreatDoor
open Go.ChangeShapes Go.WideShapes Go.ChangeAt Go.RowKit
def intAt (w : World) (b o : Nat) (x : Int) : Prop := w.cell? ⟨b, o, none⟩ = some (.int .i64 x)
def IntsAt (w : World) (a : Option Addr) (n : Nat) (xs : List Int) : Prop := n ≤ maxLen ∧ SliceAt intAt 1 w a n xs
theorem IntsAt.keep {W w : World} (hb : Ext W w) {a : Option Addr} {n : Nat} {xs : List Int} (h : IntsAt W a n xs) : IntsAt w a n xs := ⟨h.1, h.2.keep fun _ _ _ => YtlalgaioiapjmaaGreatDoor.keep hb⟩
abbrev intV (x : Int) : Value := .int .i64 x
theorem own_ints {w : World} {base : Nat} {a : Option Addr} {n cap : Nat} {xs : List Int} (h : w.ownsRow base 3 1 (.slice a n cap) n (xs.map intV)) (hn : n ≤ maxLen) : IntsAt w a n xs := by
  have hl := h.1
  rw [List.length_map, Nat.mul_one] at hl
  refine ⟨hn, hl, fun i x hx => ?_⟩
  have hi := (List.getElem?_eq_some_iff.1 hx).1
  rcases h.2 with ⟨h1, h0⟩ | ⟨g, c', cur, hv, _⟩
  · omega
  · cases hv
    have := h.cells (g := g) rfl i (.int .i64 x) (by rw [List.getElem?_map, hx]; rfl)
    rw [Addr.add_lit] at this
    exact ⟨g, 0, rfl, by simpa [intAt] using this⟩
/-- The type of a block's cells. -/
def Ty (w : World) (b : Nat) (t : TypeId) : Prop := ∃ cs x, w.heap[b]? = some (.cells cs t x)
theorem own_ty {w : World} {base n size g : Nat} {e : TypeId} {v : Value} {xs : List Value} (h : w.ownsRow base e size v n xs) (hb : v.ownBlock = some g) : Ty w g e := by
  rcases h.2 with ⟨rfl, _⟩ | ⟨g', c', cur, rfl, _, hg, _⟩
  · cases hb
  · cases hb
    exact ⟨_, _, hg⟩
theorem Ty.ne {w : World} {b b' : Nat} {t t' : TypeId} (h : Ty w b t) (h' : Ty w b' t') (hne : t ≠ t') : b ≠ b' := by
  rintro rfl
  obtain ⟨cs, x, e⟩ := h
  obtain ⟨cs', x', e'⟩ := h'
  rw [e] at e'
  injection e' with e'
  injection e' with _ e2
  exact hne e2
theorem Ty.ext {w w' : World} {b : Nat} {t : TypeId} (h : Ty w b t) (e : Ext w w') : Ty w' b t := by
  obtain ⟨cs, x, q⟩ := h
  exact ⟨cs, x, (e.block b (Array.getElem?_eq_some_iff.1 q).1).trans q⟩
theorem Ty.but {w w' : World} {b : Nat} {t : TypeId} {S : Nat → Prop} (h : Ty w b t) (e : ButS S w w') (hs : ¬ S b) : Ty w' b t := by
  obtain ⟨cs, x, q⟩ := h
  exact ⟨cs, x, (e.block b (Array.getElem?_eq_some_iff.1 q).1 hs).trans q⟩
theorem Ty.lt {w : World} {b : Nat} {t : TypeId} (h : Ty w b t) : b < w.heap.size := by
  obtain ⟨cs, x, q⟩ := h
  exact (Array.getElem?_eq_some_iff.1 q).1
theorem typ_setCell {w : World} {pb : Nat} {cs : Array Value} {t : TypeId} {x : Nat × Nat} (h : w.heap[pb]? = some (.cells cs t x)) (k : Nat) (v : Value) : ∃ cs', (w.setCell ⟨pb, k, none⟩ v).heap[pb]? = some (.cells cs' t x) := by
  refine ⟨cs.setIfInBounds k v, ?_⟩
  simp [World.setCell, Array.getElem?_modify, h]
theorem frozen_but {w w' : World} {S : Nat → Prop} {b o : Nat} {q : Bool} (e : ButS S w w') (hs : ¬ S b) (hb : b < w.heap.size) (h : w.frozen? ⟨b, o, none⟩ = q) : w'.frozen? ⟨b, o, none⟩ = q := by
  unfold World.frozen? at h ⊢
  simp only at h ⊢
  rw [e.block b hb hs]
  exact h
def updA {α : Type} (f : Nat → α) (k : Nat) (v : α) : Nat → α := fun x => if x = k then v else f x
/-- Lists under the places of a row: of each its own block, all among C. -/
structure ListsAt (w : World) (C : Nat → Prop) (B0 ga n : Nat) (et rt : TypeId) (size : Nat) (ls : Nat → List Value) (ns : Nat → Nat) : Prop where
  cga : C ga
  ty : Ty w ga rt
  each : ∃ fv : Nat → Value, (∀ v, v < n → w.cell? ⟨ga, v, none⟩ = some (fv v) ∧ w.frozen? ⟨ga, v, none⟩ = false ∧ w.ownsRow B0 et size (fv v) (ns v) (ls v) ∧ ∀ b, (fv v).ownBlock = some b → C b) ∧ ∀ v v', v < n → v' < n → v ≠ v' → ∀ b, (fv v).ownBlock = some b → (fv v').ownBlock ≠ some b
theorem frozen_ext {w w' : World} {b o : Nat} {v : Value} {q : Bool} (e : Ext w w') (h : w.cell? ⟨b, o, none⟩ = some v) (hf : w.frozen? ⟨b, o, none⟩ = q) : w'.frozen? ⟨b, o, none⟩ = q := (e.frozen (p := ⟨b, o, none⟩) (World.block_lt_of_cell? w ⟨b, o, none⟩ h)).trans hf
theorem ListsAt.ext {w w' : World} {C : Nat → Prop} {B0 ga n : Nat} {et rt : TypeId} {size : Nat} {ls : Nat → List Value} {ns : Nat → Nat} (h : ListsAt w C B0 ga n et rt size ls ns) (e : Ext w w') : ListsAt w' C B0 ga n et rt size ls ns := by
  obtain ⟨fv, h1, h2⟩ := h.each
  exact ⟨h.cga, h.ty.ext e, fv, fun v hv => ⟨keep e (h1 v hv).1, frozen_ext e (h1 v hv).1 (h1 v hv).2.1, up_ext (h1 v hv).2.2.1 e, (h1 v hv).2.2.2⟩, h2⟩
theorem ListsAt.mono {w : World} {C C' : Nat → Prop} {B0 ga n : Nat} {et rt : TypeId} {size : Nat} {ls : Nat → List Value} {ns : Nat → Nat} (h : ListsAt w C B0 ga n et rt size ls ns) (hc : ∀ b, C b → C' b) : ListsAt w C' B0 ga n et rt size ls ns := by
  obtain ⟨fv, h1, h2⟩ := h.each
  exact ⟨hc _ h.cga, h.ty, fv, fun v hv => ⟨(h1 v hv).1, (h1 v hv).2.1, (h1 v hv).2.2.1, fun b hb => hc b ((h1 v hv).2.2.2 b hb)⟩, h2⟩
/-- They stand when blocks of other types are written. -/
theorem ListsAt.but {w w' : World} {S C : Nat → Prop} {B0 ga n : Nat} {et rt : TypeId} {size : Nat} {ls : Nat → List Value} {ns : Nat → Nat} (h : ListsAt w C B0 ga n et rt size ls ns) (e : ButS S w w') (hs : ∀ b, S b → ¬ Ty w b et ∧ ¬ Ty w b rt) : ListsAt w' C B0 ga n et rt size ls ns := by
  obtain ⟨fv, h1, h2⟩ := h.each
  have hga : ¬ S ga := fun q => (hs ga q).2 h.ty
  exact ⟨h.cga, h.ty.but e hga, fv, fun v hv => ⟨e.cell hga (h1 v hv).1, frozen_but e hga (World.block_lt_of_cell? w ⟨ga, v, none⟩ (h1 v hv).1) (h1 v hv).2.1, e.own (h1 v hv).2.2.1 (fun b hb q => (hs b q).1 (own_ty (h1 v hv).2.2.1 hb)), (h1 v hv).2.2.2⟩, h2⟩
/-- One of them is gone on with. -/
theorem ListsAt.push {w w6 : World} {C : Nat → Prop} {B0 ga n : Nat} {et rt : TypeId} {size : Nat} {ls : Nat → List Value} {ns : Nat → Nat} (h : ListsAt w C B0 ga n et rt size ls ns) (hne : et ≠ rt) {v : Nat} (hv : v < n) {x : Value} (hx : w.cell? ⟨ga, v, none⟩ = some x) {o : Obj} {g c : Nat} {news : List Value} (own : w6.ownsRow B0 et size (.slice (some ⟨g, 0, none⟩) (ns v + 1) c) (ns v + 1) (ls v ++ news)) (q : (w.alloc o).grownBy w6 x.ownBlock) (hg : x.ownBlock = some g ∨ w.heap.size ≤ g) :
    w6.cell? ⟨ga, v, none⟩ = some x ∧ w6.frozen? ⟨ga, v, none⟩ = false ∧ (∀ b, x.ownBlock = some b → C b ∧ Ty w b et) ∧ ListsAt (w6.setCell ⟨ga, v, none⟩ (.slice (some ⟨g, 0, none⟩) (ns v + 1) c)) (fun b => C b ∨ b = g) B0 ga n et rt size (updA ls v (ls v ++ news)) (updA ns v (ns v + 1)) := by
  obtain ⟨fv, h1, h2⟩ := h.each
  obtain ⟨x1, x2, x3, x4⟩ := h1 v hv
  rw [hx] at x1
  cases x1
  have b6 : ButS (fun b => (fv v).ownBlock = some b) w w6 := ((ButS.refl _ w).alloc o).grown q (fun b e => .inl e)
  have nga : ¬ (fv v).ownBlock = some ga := fun e => (own_ty x3 e).ne h.ty hne rfl
  have c6 := b6.cell nga hx
  have f6 := frozen_but b6 nga h.ty.lt x2
  have tg : Ty w6 g et := own_ty own rfl
  have t6 := h.ty.but b6 nga
  have gne : g ≠ ga := tg.ne t6 hne
  have b7 : ButS (fun b => b = ga) w6 (w6.setCell ⟨ga, v, none⟩ (.slice (some ⟨g, 0, none⟩) (ns v + 1) c)) := (ButS.refl (fun b => b = ga) w6).set (.inl rfl) _ _
  refine ⟨c6, f6, fun b hb => ⟨x4 b hb, own_ty x3 hb⟩, .inl h.cga, ?_, updA fv v (.slice (some ⟨g, 0, none⟩) (ns v + 1) c), fun u hu => ?_, fun u u' hu hu' huu b hb => ?_⟩
  · obtain ⟨cs, y, e⟩ := t6
    obtain ⟨cs', e'⟩ := typ_setCell e v (.slice (some ⟨g, 0, none⟩) (ns v + 1) c)
    exact ⟨cs', y, e'⟩
  · unfold updA
    by_cases huv : u = v
    · subst huv
      simp only [↓reduceIte]
      refine ⟨World.cell?_setCell_same _ _ _ c6, by rw [World.frozen?_setCell]; exact f6, own_set_other own (.inr (fun e => by cases e; exact gne rfl)) _, fun b hb => ?_⟩
      cases hb
      exact .inr rfl
    · simp only [huv, ↓reduceIte]
      obtain ⟨y1, y2, y3, y4⟩ := h1 u hu
      have hl := World.block_lt_of_cell? w ⟨ga, u, none⟩ y1
      refine ⟨?_, ?_, b7.own (b6.own y3 (fun b hb hb2 => h2 u v hu hv huv b hb hb2)) (fun b hb e => by subst e; exact (own_ty y3 hb).ne h.ty hne rfl), fun b hb => .inl (y4 b hb)⟩
      · rw [World.cell?_setCell_other _ _ _ _ (by intro e; injection e with _ e2; exact huv e2.symm)]
        exact b6.cell nga y1
      · rw [World.frozen?_setCell]
        exact frozen_but b6 nga hl y2
  · unfold updA at hb ⊢
    have hgn : ∀ u, u < n → u ≠ v → ∀ b, (fv u).ownBlock = some b → b ≠ g := fun u0 hu0 huv0 b0 hb0 e => by
      subst e
      rcases hg with e | e
      · exact h2 u0 v hu0 hv huv0 b0 hb0 e
      · have := ((h1 u0 hu0).2.2.1.lt b0 hb0).2
        omega
    by_cases huv : u = v
    · subst huv
      rw [if_pos rfl] at hb
      rw [if_neg (fun e => huu e.symm)]
      cases hb
      intro e
      exact hgn u' hu' (fun e => huu e.symm) _ e rfl
    · rw [if_neg huv] at hb
      by_cases huv' : u' = v
      · subst huv'
        rw [if_pos rfl]
        intro e
        cases e
        exact hgn u hu huv _ hb rfl
      · rw [if_neg huv']
        exact h2 u u' hu hu' huu b hb
abbrev numV (n : Nat) : Value := .int .i64 (n : Nat)
theorem info_int : (Tryz.prog.info? 3).map (fun i => (i.zero, i.size, i.bytes)) = some (some (.int .i64 0), 1, 8) := by kernel_rfl
/-- One number more, at a step of a region that draws its order. -/
theorem step_push_int {ops : Array Oper} {o : Oper} {a : Act} {K : Act → World → Prop} {Q : Exit → Act → World → Prop} {E : Prop} (W0 : World) (z : Int) (base : Nat) (fa : Option Addr) (n fc : Nat) (l : List Int) (hown : W0.ownsRow base 3 1 (.slice fa n fc) n (l.map intV)) (hn : n ≤ 2000000) (hbase : base ≤ W0.heap.size) (hgd : o.guard = none) (s x : Operand)
    (ho : o.op = .call { callee := .builtin .append, args := #[s, x], argTypes := #[52, 52] }) (hs : a.eval s = .slice fa n fc) (hx : a.eval x = .slice (some ⟨W0.heap.size, 0, none⟩) 1 1)
    (h : ∀ g cap w', w'.ownsRow base 3 1 (.slice (some ⟨g, 0, none⟩) (n + 1) cap) (n + 1) (l.map intV ++ [intV z]) → (W0.alloc (.cells #[.int .i64 z] 3)).grownBy w' (Value.slice fa n fc).ownBlock → ((Value.slice fa n fc).ownBlock = some g ∨ g = (W0.alloc (.cells #[.int .i64 z] 3)).heap.size) → K (a.put o.dst (.slice (some ⟨g, 0, none⟩) (n + 1) cap)) w') :
    if Region.wanted o (yielded ops a.tmps) = true then Oper.wp Tryz.prog o a (W0.alloc (.cells #[.int .i64 z] 3)) K Q else E := by
  obtain ⟨n0, hn0, nz0, nz1, nz2⟩ := info_parts info_int
  exact step_append_lies _ hgd s x 52 ho base 3 n0 (.int .i64 0) 1 8 Tryz.underlying52 hn0 nz0 nz1 nz2 rfl (by decide) _ n (l.map intV) hs (hown.alloc _) ⟨W0.heap.size, 0, none⟩ 1 1 [.int .i64 z] hx rfl (news1 W0 _ _) (by simp [Value.oneCell']) (by omega) (by unfold maxLen; omega) (by omega) (by simp; omega) _ rfl fun g cap w1 hown1 hgrow hat _ => h g cap w1 hown1 hgrow hat
/-- A block that holds these cells. -/
def Blk (w : World) (b : Nat) (t : TypeId) (cs : List Value) : Prop := w.heap[b]? = some (.cells cs.toArray t (0, 0))
section
variable {w w' : World} {b : Nat} {t : TypeId} {cs : List Value}
theorem Blk.lt (h : Blk w b t cs) : b < w.heap.size := (Array.getElem?_eq_some_iff.1 h).1
theorem Blk.ty (h : Blk w b t cs) : Ty w b t := ⟨_, _, h⟩
theorem Blk.cell (h : Blk w b t cs) {i : Nat} {v : Value} (hi : cs[i]? = some v) : w.cell? ⟨b, i, none⟩ = some v := by
  unfold Blk at h
  simp only [World.cell?, h]
  simpa using hi
theorem Blk.free (h : Blk w b t cs) (i : Nat) : w.frozen? ⟨b, i, none⟩ = false := by
  unfold Blk at h
  simp [World.frozen?, h]
theorem Blk.set (h : Blk w b t cs) (i : Nat) (v : Value) : Blk (w.setCell ⟨b, i, none⟩ v) b t (cs.set i v) := by
  have := heap_setCell_same w b i _ _ v h
  unfold Blk
  rw [this]
  simp
theorem Blk.other (h : Blk w b t cs) {p : Addr} (hne : b ≠ p.block) (v : Value) : Blk (w.setCell p v) b t cs := by
  unfold Blk at h ⊢
  rw [heap_setCell_other w p b v hne]
  exact h
theorem Blk.ext (h : Blk w b t cs) (e : Ext w w') : Blk w' b t cs := (e.block b h.lt).trans h
theorem Blk.below (h : Blk w b t cs) {B : Nat} (e : Below B w w') (hb : b < B) : Blk w' b t cs := (e.block b hb).trans h
theorem Blk.but (h : Blk w b t cs) {S : Nat → Prop} (e : ButS S w w') (hs : ¬ S b) : Blk w' b t cs := (e.block b h.lt hs).trans h
theorem Blk.grown (h : Blk w b t cs) {r : Option Nat} (g : w.grownBy w' r) (hr : r ≠ some b) : Blk w' b t cs := (g.block b h.lt (fun e => hr e.symm)).trans h
theorem Blk.new (w : World) (cs : List Value) (t : TypeId) : Blk (w.alloc (.cells cs.toArray t)) w.heap.size t cs := heap_alloc_new w _
end
/-- Edges: three numbers each. -/
def edgeAt (w : World) (b o : Nat) (e : K.Edge) : Prop := w.cell? ⟨b, o, none⟩ = some (.int .i64 e.src) ∧ w.cell? ⟨b, o + 1, none⟩ = some (.int .i64 e.dst) ∧ w.cell? ⟨b, o + 2, none⟩ = some (.int .i64 e.wt)
theorem edgeAt.keep {W w : World} (hb : Ext W w) {b o : Nat} {e : K.Edge} (h : edgeAt W b o e) : edgeAt w b o e := ⟨YtlalgaioiapjmaaGreatDoor.keep hb h.1, YtlalgaioiapjmaaGreatDoor.keep hb h.2.1, YtlalgaioiapjmaaGreatDoor.keep hb h.2.2⟩
def EdgesAt (w : World) (a : Option Addr) (n : Nat) (es : List K.Edge) : Prop := n ≤ 1048576 ∧ SliceAt edgeAt 3 w a n es
theorem EdgesAt.keep {W w : World} (hb : Ext W w) {a : Option Addr} {n : Nat} {es : List K.Edge} (h : EdgesAt W a n es) : EdgesAt w a n es := ⟨h.1, h.2.keep fun _ _ _ => edgeAt.keep hb⟩
theorem made_one {z : Value} (hc : z.cells = #[z]) (n : Nat) : madeCells z.cells (n * 1) = Array.replicate n z := by
  apply Array.ext
  · simp [madeCells]
  · intro i h1 h2
    simp [madeCells, hc, Nat.mod_one]
theorem mkS {P : Program} (w : World) (t e : TypeId) (i : TypeInfo) (z : Value) (ht : P.underlying t = some (.slice e)) (hi : P.info? e = some i) (hz : i.zero = some z) (hs : i.size = 1) (hc : z.cells = #[z]) (n : Nat) (hb : i.bytes * n ≤ 281474976710656) (h63 : n ≤ maxLen) :
    (Instr.makeSlice t (.int .i64 (n : Int)) (.int .i64 (n : Int))).run P w = .ok (.slice (some ⟨w.heap.size, 0, none⟩) n n) (w.alloc (.cells (Array.replicate n z) e)) := by
  have h63' : (n : Int) ≤ 9223372036854775807 := by
    have h := h63
    simp [maxLen] at h
    omega
  have hb' : (i.bytes : Int) * (n : Int) ≤ 281474976710656 := by
    have h : ((i.bytes * n : Nat) : Int) ≤ 281474976710656 := by omega
    rwa [Int.natCast_mul] at h
  have h := run_make (P := P) w t e i z ht hi hz .i64 .i64 n n (by omega) (Int.le_refl _) hb' h63'
  rw [hs, Int.toNat_natCast, made_one hc] at h
  exact h
theorem Blk.made (w : World) (n : Nat) (z : Value) (t : TypeId) : Blk (w.alloc (.cells (Array.replicate n z) t)) w.heap.size t (List.replicate n z) := by
  unfold Blk
  rw [heap_alloc_new]
  simp
/-- Which block holds what each node leads to. -/
def NetV (w : World) (C : Nat → Prop) (B0 gb n : Nat) (g : Nat → List Nat) : Prop := ListsAt w C B0 gb n 3 52 1 (fun v => (g v).map numV) (fun v => (g v).length)
theorem ListsAt.start {w : World} {gb n B0 size : Nat} {et rt : TypeId} (h : Blk w gb rt (List.replicate n (.slice none 0 0))) : ListsAt w (fun b => b = gb) B0 gb n et rt size (fun _ => []) (fun _ => 0) :=
  ⟨rfl, h.ty, fun _ => .slice none 0 0, fun v hv => ⟨h.cell (by rw [List.getElem?_replicate, if_pos hv]), h.free v, World.ownsRow_nil _ _ _ _, fun b e => by cases e⟩, fun _ _ _ _ _ b e => by cases e⟩
/-- One number more, in a region that draws nothing. -/
theorem wpList_push_int {ops : Array Oper} {rest : List Oper} {o : Oper} {a : Act} {Q : Exit → Act → World → Prop} (W0 : World) (z : Int) (base : Nat) (fa : Option Addr) (n fc : Nat) (l : List Value) (hown : W0.ownsRow base 3 1 (.slice fa n fc) n l) (hn : n ≤ 2000000) (hbase : base ≤ W0.heap.size) (hgd : o.guard = none) (s x : Operand)
    (ho : o.op = .call { callee := .builtin .append, args := #[s, x], argTypes := #[52, 52] }) (hs : a.eval s = .slice fa n fc) (hx : a.eval x = .slice (some ⟨W0.heap.size, 0, none⟩) 1 1)
    (h : ∀ g cap w', w'.ownsRow base 3 1 (.slice (some ⟨g, 0, none⟩) (n + 1) cap) (n + 1) (l ++ [intV z]) → (W0.alloc (.cells #[.int .i64 z] 3)).grownBy w' (Value.slice fa n fc).ownBlock → ((Value.slice fa n fc).ownBlock = some g ∨ W0.heap.size ≤ g) → wpList Tryz.prog ops Q rest (a.put o.dst (.slice (some ⟨g, 0, none⟩) (n + 1) cap)) w') :
    wpList Tryz.prog ops Q (o :: rest) a (W0.alloc (.cells #[.int .i64 z] 3)) := by
  obtain ⟨n0, hn0, nz0, nz1, nz2⟩ := info_parts info_int
  exact wpList_append_one _ hgd s x 52 ho base 3 n0 (.int .i64 0) 1 8 Tryz.underlying52 hn0 nz0 nz1 nz2 rfl (by decide) _ n _ l hs (hown.alloc _) ⟨W0.heap.size, 0, none⟩ 1 [.int .i64 z] hx rfl (news1 W0 _ _) (by simp [Value.oneCell']) (by unfold maxLen; omega) (by omega) (by simp; omega) fun g cap w1 hown1 hgrow hat _ => h g cap w1 hown1 hgrow (hat.imp id fun e => by rw [e]; simp)
end Go.Proofs.YtlalgaioiapjmaaGreatDoor
namespace Go.Proofs.YtlalgaioiapjmaaGreatDoor
open Go.ChangeShapes Go.WideShapes Go.ChangeAt Go.RowKit
open K (AL fitA fitU usesR usesB)
theorem lookA_eq {β : Type} (l : AL β) (x : ByteArray) : K.lookA l x = getL l x := by
  induction l with
  | nil => rfl
  | cons p l ih =>
    obtain ⟨k, v⟩ := p
    unfold K.lookA getL
    rw [ih]
theorem putA_eq {β : Type} (l : AL β) (x : ByteArray) (v : β) : K.putA l x v = putL l x v := by
  induction l with
  | nil => rfl
  | cons p l ih =>
    obtain ⟨k, u⟩ := p
    unfold K.putA putL
    rw [ih]
abbrev okS (s : ByteArray) : Prop := s.size ≤ maxLen
/-- A map from texts to numbers. -/
def AMap (w : World) (b : Nat) (a : AL Nat) : Prop := LMap Value.string okS w b (a.map fun p => (p.1, numV p.2))
theorem zero_int (w : World) : (zeroValue 3).run Tryz.prog w = .ok (.int .i64 0) w := by kernel_rfl
theorem AMap.get {w : World} {b : Nat} {a : AL Nat} (h : AMap w b a) {t : TypeId} (ht : Tryz.prog.underlying t = some (.map 9 3)) (k : ByteArray) (hk : okS k) (c : Bool) :
    (Instr.lookup t (.map (some b)) (.string k) c).run Tryz.prog w = .ok (if c then .tuple #[.int .i64 ((K.lookA a k).getD 0 : Nat), .bool (K.lookA a k).isSome] else .int .i64 ((K.lookA a k).getD 0 : Nat)) w := by
  have q := LMap.look (P := Tryz.prog) h (strEnc Tryz.underlying9) ht (zero_int w) k hk c
  rw [getL_map, ← lookA_eq] at q
  rw [q]
  cases K.lookA a k <;> rfl
theorem AMap.set {w : World} {b : Nat} {a : AL Nat} (h : AMap w b a) {t : TypeId} (ht : Tryz.prog.underlying t = some (.map 9 3)) (k : ByteArray) (hk : okS k) (n : Nat) :
    ∃ o, (Instr.mapUpdate t (.map (some b)) (.string k) (.int .i64 (n : Nat))).run Tryz.prog w = .ok () (K.setMap w b o) ∧ AMap (K.setMap w b o) b (K.putA a k n) := by
  obtain ⟨o, h1, h2⟩ := LMap.upd (P := Tryz.prog) h (strEnc Tryz.underlying9) ht k hk (numV n)
  refine ⟨o, h1, ?_⟩
  unfold AMap
  rw [putA_eq, ← putL_map]
  exact h2
theorem c_fits (a : AL Nat) (b : Nat) (k : ByteArray) (n : Nat) (w : World) (h : AMap w b a) (hk : okS k) :
    Calls Tryz.prog 117 #[.map (some b), .string k, .int .i64 (n : Int)] w fun e w' => e = .returned (.bool (fitA a k n).2) ∧ AMap w' b (fitA a k n).1 ∧ ButS (fun x => x = b) w w' := by
  have hl := h.get Tryz.underlying142 k hk true
  obtain ⟨o, hu, hm⟩ := h.set Tryz.underlying142 k hk n
  have H := Lib.hid h
  have HM := Lib.hid hm
  have FT : Hid (fitA a k n = match K.lookA a k with | some m => (a, decide (m = n)) | none => (K.putA a k n, true)) := by
    show _ = _
    unfold fitA
    cases K.lookA a k <;> rfl
  clear h hm
  cases hlk : K.lookA a k with
  | none =>
    have e9 : fitA a k n = (K.putA a k n, true) := by rw [FT.out, hlk]
    rw [hlk] at hl
    simp only [Option.getD_none, Option.isSome_none, if_pos] at hl
    rw [e9]
    clear hlk e9
    go_enter Tryz.func117, Tryz.ntmps117
    go_wp2
    go_returns
    exact ⟨rfl, HM.out, (ButS.refl _ w).grown (K.setMap_grown w b o) (fun x e => .inl (by cases e; rfl))⟩
  | some m =>
    have e9 : fitA a k n = (a, decide (m = n)) := by rw [FT.out, hlk]
    rw [hlk] at hl
    simp only [Option.getD_some, Option.isSome_some, if_pos] at hl
    rw [e9]
    obtain ⟨q, hq⟩ : ∃ q, decide (m = n) = q := ⟨_, rfl⟩
    have hqi : ((m : Int) == (n : Int)) = q := by
      rw [← hq, Bool.eq_iff_iff, beq_iff_eq, decide_eq_true_eq]
      omega
    rw [hq]
    clear hlk e9 hq hu
    go_enter Tryz.func117, Tryz.ntmps117
    go_wp2
    go_returns
    exact ⟨rfl, H.out, ButS.refl _ _⟩
end Go.Proofs.YtlalgaioiapjmaaGreatDoor
namespace Go.Proofs.YtlalgaioiapjmaaGreatDoor
open Go.RowKit Go.Maps
set_option maxRecDepth 100000 in
theorem laid_out : laidOutB Tryz.prog = true := by kernel_rfl
theorem pair_law : WideMaps.KeyLaw Tryz.prog 104 := deep_law_laid laid_out (m := 2) (by omega) (of_decide_eq_true (by kernel_rfl)) (by kernel_rfl) (by rw [Tryz.underlying104])
theorem pair_keyed : Keyed Tryz.prog 104 := Keyed.of_law pair_law
def pairV (p : ByteArray × ByteArray) : Value := .agg #[.string p.1, .string p.2]
theorem pair_lits (m : Nat) (a b : ByteArray) (ha : a.size ≤ maxLen) (hb : b.size ≤ maxLen) : Tryz.prog.keyLits (m + 2) 104 [.string a, .string b] = some [.string a.data.toList, .string b.data.toList] := by
  have c1 : Tryz.prog.cellsOf 104 = 2 := by kernel_rfl
  have c2 : Tryz.prog.cellsOf 9 = 1 := by kernel_rfl
  have u1 := Tryz.underlying104
  have u2 := Tryz.underlying9
  have k1 : ∀ x : ByteArray, x.size ≤ maxLen → Tryz.prog.keyLits (m + 1) 9 [.string x] = some [.string x.data.toList] := fun x hx => by
    unfold Program.keyLits
    simp only [u2]
    simp [hx]
  unfold Program.keyLits
  simp only [u1]
  simp [c1, c2, List.range_succ, k1 a ha, k1 b hb]
theorem pairEnc : KEnc Tryz.prog 104 pairV (fun p => p.1.size ≤ maxLen ∧ p.2.size ≤ maxLen) :=
  ⟨pair_keyed, fun p h => by
    have e1 : Tryz.prog.keyType 104 = true := by kernel_rfl
    have c1 : Tryz.prog.cellsOf 104 = 2 := by kernel_rfl
    have e2 : (pairV p).formed Tryz.prog 104 = true := by simp [pairV, Value.formed, Tryz.underlying104, c1]
    obtain ⟨m, hm⟩ : ∃ m, Tryz.prog.types.size + 1 = m + 2 := ⟨Tryz.prog.types.size - 1, by
      have : 0 < Tryz.prog.types.size := of_decide_eq_true (by kernel_rfl)
      omega⟩
    refine ⟨.string (keyBytes [.string p.1.data.toList, .string p.2.data.toList]), ?_⟩
    · unfold keyOf
      rw [Tryz.underlying104]
      simp only [e1, e2, Bool.and_self, if_true, hm]
      have := pair_lits m p.1 p.2 h.1 h.2
      simp only [pairV, Value.cells]
      rw [this]
      rfl, fun a b h => by
    obtain ⟨a1, a2⟩ := a
    obtain ⟨b1, b2⟩ := b
    simp [pairV] at h
    rw [h.1, h.2]⟩
end Go.Proofs.YtlalgaioiapjmaaGreatDoor
namespace Go.Proofs.YtlalgaioiapjmaaGreatDoor
open Go.ChangeShapes Go.WideShapes Go.ChangeAt Go.RowKit Go.Maps Go.Sort Go.Shelf
def kb (x : MapEntry) : ByteArray := match x.key with
  | .string s => s
  | _ => ⟨#[]⟩
abbrev noR : Value → Option (DataW Unit × List MemPlace) := fun _ => some (.nil, [])
theorem lmap_owns {P : Program} {kt : TypeId} {w : World} {b : Nat} {l : List (ByteArray × Value)} (hk : P.underlying kt = some .string) (h : LMap Value.string okS w b l) (hn : l.length ≤ 1000000) :
    ∃ D : DataW Unit, w.ownsMap P kt noR b 1000000 D ∧ Maps.size D ≤ 1000000 ∧ (strKeys D).Perm (l.map fun p => p.1.data.toList) := by
  obtain ⟨es, clock, h1, h2, h3, h4, h5⟩ := h
  have hkb : es.toList.map kb = l.map (·.1) := by
    have := congrArg (List.map fun q : Value × Value => match q.1 with | .string s => s | _ => (⟨#[]⟩ : ByteArray)) h2
    rw [List.map_map, List.map_map] at this
    exact this
  have hkey : ∀ x ∈ es.toList, x.key = .string (kb x) ∧ okS (kb x) := fun x hx => by
    obtain ⟨j, hj⟩ := List.mem_iff_getElem?.1 hx
    obtain ⟨p, q1, q2, _⟩ := ent_at h2 hj
    have e : kb x = p.1 := by unfold kb; rw [q2]
    rw [e]
    exact ⟨q2, h4 p (List.mem_of_getElem? q1)⟩
  have hrd : ∀ x ∈ es.toList, WideElems.rd P kt noR x = some (.string (kb x).data.toList, .nil) := fun x hx => by
    obtain ⟨q1, q2⟩ := hkey x hx
    have : keyOf P kt x.key = some (.string (kb x).data.toList) := by
      rw [q1]
      exact Go.WideMaps.keyOf_string_mk hk q2
    unfold WideElems.rd
    rw [this]
    rfl
  have hrg : ∀ x ∈ es.toList, WideElems.rg P kt noR x = (.string (kb x).data.toList, .nil) := fun x hx => by
    unfold WideElems.rg
    rw [hrd x hx]
    rfl
  have hlen : es.toList.length = l.length := by
    have := congrArg List.length hkb
    simpa using this
  have hsize : es.size ≤ 1000000 := by
    have : es.size = es.toList.length := by simp
    omega
  have hp := (sorted_perm (es.toList.map (WideElems.rg P kt noR)))
  have hsk : (strKeys (.map ((es.toList.map (WideElems.rg P kt noR)).foldr DataW.insert []) : DataW Unit)).Perm (es.toList.map fun x => (kb x).data.toList) := by
    show (((es.toList.map (WideElems.rg P kt noR)).foldr DataW.insert []).map fun p => strOf p.1).Perm _
    refine (hp.map _).trans ?_
    rw [List.map_map]
    refine List.Perm.of_eq (List.map_congr_left fun x hx => ?_)
    simp only [Function.comp]
    rw [hrg x hx]
    rfl
  refine ⟨_, ⟨es, clock, h1, ⟨by unfold maxLen; omega, h5, fun x hx => ⟨_, hrd x hx⟩⟩, hsize, rfl⟩, ?_, ?_⟩
  · show ((es.toList.map (WideElems.rg P kt noR)).foldr DataW.insert []).length ≤ 1000000
    rw [hp.length_eq, List.length_map]
    simpa using hsize
  · have e : (es.toList.map fun x => (kb x).data.toList) = l.map fun p => p.1.data.toList := by
      have := congrArg (List.map fun s : ByteArray => s.data.toList) hkb
      simpa [List.map_map, Function.comp_def] using this
    rw [← e]
    exact hsk
end Go.Proofs.YtlalgaioiapjmaaGreatDoor
namespace Go.Proofs.YtlalgaioiapjmaaGreatDoor
open Go.ChangeShapes Go.WideShapes Go.ChangeAt Go.RowKit Go.Maps Go.Sort Go.Shelf
def Tryz.keysA_ren : Go.Shelf.Ren := ⟨fun | 7 => 61 | 10 => 97 | n => n, fun | 23 => 79 | 26 => 9 | 3 => 3 | 28 => 107 | 0 => 0 | 27 => 106 | 33 => 99 | 4 => 4 | n => n, fun | n => n⟩
theorem Tryz.keysA : Go.Proofs.SlLaysZ.n7 Tryz.prog Tryz.keysA_ren := {
  mixed := by kernel_rfl, f7 := ⟨Tryz.f61.name, by decide, Tryz.func61.trans (congrArg some (by kernel_rfl))⟩, f10 := ⟨Tryz.f97.name, by decide, Tryz.func97.trans (congrArg some (by kernel_rfl))⟩, t0 := Tryz.underlying0, a0 := Tryz.isAgg0, z0 := Tryz.sizeOf0, v0 := Tryz.zeroValue0, t4 := Tryz.underlying4,
  a4 := Tryz.isAgg4, z4 := Tryz.sizeOf4, v4 := Tryz.zeroValue4, t23 := Tryz.underlying79, a23 := Tryz.isAgg79, z23 := Tryz.sizeOf79, v23 := Tryz.zeroValue79, t26 := Tryz.underlying9,
  a26 := Tryz.isAgg9, z26 := Tryz.sizeOf9, v26 := Tryz.zeroValue9, t27 := Tryz.underlying106, a27 := Tryz.isAgg106, z27 := Tryz.sizeOf106, v27 := Tryz.zeroValue106, t28 := Tryz.underlying107,
  a28 := Tryz.isAgg107, z28 := Tryz.sizeOf107, v28 := Tryz.zeroValue107, t33 := Tryz.underlying99, a33 := Tryz.isAgg99, z33 := Tryz.sizeOf99, v33 := Tryz.zeroValue99 }
def Tryz.sortedA_ren : Go.Shelf.Ren := ⟨fun | 6 => 60 | 8 => 95 | 9 => 96 | 11 => 124 | 13 => 55 | 12 => 125 | 23 => 90 | 24 => 91 | 14 => 149 | 15 => 150 | 16 => 151 | 17 => 152 | 18 => 153 | 19 => 154 | 20 => 155 | 21 => 156 | 22 => 157 | 25 => 166 | 26 => 112 | 27 => 113 | 28 => 167 | 29 => 168 | 30 => 56 | 31 => 172 | n => n, fun | 26 => 9 | 28 => 107 | 24 => 25 | 0 => 0 | 3 => 3 | 37 => 98 | 48 => 139 | 50 => 141 | 4 => 4 | 40 => 132 | 39 => 131 | 45 => 136 | 5 => 5 | 9 => 9 | 51 => 168 | 55 => 172 | 57 => 206 | 58 => 207 | 33 => 99 | n => n, fun | n => n⟩
theorem Tryz.sortedA : Go.Proofs.SlLaysZ.n6 Tryz.prog Tryz.sortedA_ren := {
  mixed := by kernel_rfl, f6 := ⟨Tryz.f60.name, by decide, Tryz.func60.trans (congrArg some (by kernel_rfl))⟩, f8 := ⟨Tryz.f95.name, by decide, Tryz.func95.trans (congrArg some (by kernel_rfl))⟩, f11 := ⟨Tryz.f124.name, by decide, Tryz.func124.trans (congrArg some (by kernel_rfl))⟩, t0 := Tryz.underlying0, a0 := Tryz.isAgg0, z0 := Tryz.sizeOf0, v0 := Tryz.zeroValue0,
  t24 := Tryz.underlying25, a24 := Tryz.isAgg25, z24 := Tryz.sizeOf25, v24 := Tryz.zeroValue25, t26 := Tryz.underlying9, a26 := Tryz.isAgg9, z26 := Tryz.sizeOf9, v26 := Tryz.zeroValue9,
  t28 := Tryz.underlying107, a28 := Tryz.isAgg107, z28 := Tryz.sizeOf107, v28 := Tryz.zeroValue107, i26 := by kernel_rfl }
def Tryz.sortA_ren : Go.Shelf.Ren := ⟨fun | 6 => 96 | 8 => 55 | 9 => 125 | 19 => 90 | 20 => 91 | 21 => 149 | 22 => 150 | 23 => 151 | 24 => 152 | 25 => 153 | 26 => 154 | 27 => 155 | 28 => 156 | 29 => 157 | 36 => 166 | 31 => 112 | 32 => 113 | 37 => 167 | 38 => 168 | 39 => 56 | 41 => 172 | n => n, fun | 27 => 25 | 29 => 9 | 3 => 3 | 32 => 98 | 26 => 25 | 0 => 0 | 44 => 139 | 46 => 141 | 4 => 4 | 36 => 132 | 35 => 131 | 41 => 136 | 5 => 5 | 9 => 9 | 53 => 168 | 57 => 172 | 63 => 206 | 64 => 207 | n => n, fun | n => n⟩
theorem Tryz.sortA : Go.Proofs.SlLaysM.n6 Tryz.prog Tryz.sortA_ren := {
  mixed := by kernel_rfl, f6 := ⟨Tryz.f96.name, by decide, Tryz.func96.trans (congrArg some (by kernel_rfl))⟩, f8 := Tryz.func55.trans (congrArg some (by kernel_rfl)), f9 := ⟨Tryz.f125.name, by decide, Tryz.func125.trans (congrArg some (by kernel_rfl))⟩, f19 := Tryz.func90.trans (congrArg some (by kernel_rfl)), f20 := Tryz.func91.trans (congrArg some (by kernel_rfl)), f21 := ⟨Tryz.f149.name, by decide, Tryz.func149.trans (congrArg some (by kernel_rfl))⟩, f22 := ⟨Tryz.f150.name, by decide, Tryz.func150.trans (congrArg some (by kernel_rfl))⟩,
  f23 := ⟨Tryz.f151.name, by decide, Tryz.func151.trans (congrArg some (by kernel_rfl))⟩, f24 := ⟨Tryz.f152.name, by decide, Tryz.func152.trans (congrArg some (by kernel_rfl))⟩, f25 := ⟨Tryz.f153.name, by decide, Tryz.func153.trans (congrArg some (by kernel_rfl))⟩, f26 := ⟨Tryz.f154.name, by decide, Tryz.func154.trans (congrArg some (by kernel_rfl))⟩, f27 := ⟨Tryz.f155.name, by decide, Tryz.func155.trans (congrArg some (by kernel_rfl))⟩, f28 := ⟨Tryz.f156.name, by decide, Tryz.func156.trans (congrArg some (by kernel_rfl))⟩, f29 := ⟨Tryz.f157.name, by decide, Tryz.func157.trans (congrArg some (by kernel_rfl))⟩, f31 := Tryz.func112.trans (congrArg some (by kernel_rfl)),
  f32 := Tryz.func113.trans (congrArg some (by kernel_rfl)), f36 := ⟨Tryz.f166.name, by decide, Tryz.func166.trans (congrArg some (by kernel_rfl))⟩, f37 := ⟨Tryz.f167.name, by decide, Tryz.func167.trans (congrArg some (by kernel_rfl))⟩, f38 := ⟨Tryz.f168.name, by decide, Tryz.func168.trans (congrArg some (by kernel_rfl))⟩, f39 := ⟨Tryz.f56.name, by decide, Tryz.func56.trans (congrArg some (by kernel_rfl))⟩, f41 := ⟨Tryz.f172.name, by decide, Tryz.func172.trans (congrArg some (by kernel_rfl))⟩, t0 := Tryz.underlying0, a0 := Tryz.isAgg0,
  z0 := Tryz.sizeOf0, v0 := Tryz.zeroValue0, t3 := Tryz.underlying3, a3 := Tryz.isAgg3, z3 := Tryz.sizeOf3, v3 := Tryz.zeroValue3, t4 := Tryz.underlying4, a4 := Tryz.isAgg4,
  z4 := Tryz.sizeOf4, v4 := Tryz.zeroValue4, t5 := Tryz.underlying5, a5 := Tryz.isAgg5, z5 := Tryz.sizeOf5, v5 := Tryz.zeroValue5, t9 := Tryz.underlying9, a9 := Tryz.isAgg9,
  z9 := Tryz.sizeOf9, v9 := Tryz.zeroValue9, t26 := Tryz.underlying25, a26 := Tryz.isAgg25, z26 := Tryz.sizeOf25, v26 := Tryz.zeroValue25, t27 := Tryz.underlying25, a27 := Tryz.isAgg25,
  z27 := Tryz.sizeOf25, v27 := Tryz.zeroValue25, t29 := Tryz.underlying9, a29 := Tryz.isAgg9, z29 := Tryz.sizeOf9, v29 := Tryz.zeroValue9, t32 := Tryz.underlying98, a32 := Tryz.isAgg98,
  z32 := Tryz.sizeOf98, v32 := Tryz.zeroValue98, t35 := Tryz.underlying131, a35 := Tryz.isAgg131, z35 := Tryz.sizeOf131, v35 := Tryz.zeroValue131, t36 := Tryz.underlying132, a36 := Tryz.isAgg132,
  z36 := Tryz.sizeOf132, v36 := Tryz.zeroValue132, t41 := Tryz.underlying136, a41 := Tryz.isAgg136, z41 := Tryz.sizeOf136, v41 := Tryz.zeroValue136, t44 := Tryz.underlying139, a44 := Tryz.isAgg139,
  z44 := Tryz.sizeOf139, v44 := Tryz.zeroValue139, t46 := Tryz.underlying141, a46 := Tryz.isAgg141, z46 := Tryz.sizeOf141, v46 := Tryz.zeroValue141, t53 := Tryz.underlying168, a53 := Tryz.isAgg168,
  z53 := Tryz.sizeOf168, v53 := Tryz.zeroValue168, t57 := Tryz.underlying172, a57 := Tryz.isAgg172, z57 := Tryz.sizeOf172, v57 := Tryz.zeroValue172, t63 := Tryz.underlying206, a63 := Tryz.isAgg206,
  z63 := Tryz.sizeOf206, v63 := Tryz.zeroValue206, t64 := Tryz.underlying207, a64 := Tryz.isAgg207, z64 := Tryz.sizeOf207, v64 := Tryz.zeroValue207 }
theorem sortsA (m : Nat) : AnyZ.SortsIn Tryz.prog Tryz.sortedA_ren Fence.wide m :=
  ⟨fun blk off cap ss W hH hblk hsz => callsIn_wide.2 (AnyM.slices_Sort_string Tryz.sortA blk off cap ss W hH hblk hsz),
   fun p cap W => callsIn_wide.2 (AnyM.slices_Sort_string_none Tryz.sortA p cap W)⟩
theorem c_keysM (mb : Option Nat) (W : World) : Calls Tryz.prog 61 #[.map mb] W fun e w' => e = .returned (.func (.func 97) #[] #[.pointer (some ⟨W.heap.size, 0, none⟩)]) ∧ w' = W.alloc (.cells #[.map mb] 79) :=
  callsIn_wide.1 (AnyZ.keys_in Tryz.keysA Fence.wide 5 trivial rfl mb W)
theorem c_sortedM (b : Nat) (l : List (ByteArray × Value)) (w : World) (h : LMap Value.string okS w b l) (hn : l.length ≤ 1000000) :
    Calls Tryz.prog 60 #[.func (.func 97) #[] #[.pointer (some ⟨w.heap.size, 0, none⟩)]] (w.alloc (.cells #[.map (some b)] 79)) fun e w' => ∃ (v : Value) (ss : List (List UInt8)), e = .returned v ∧ ss.Perm (l.map fun p => p.1.data.toList) ∧
      w'.ownsRow w.heap.size 9 1 v ss.length ((ss.mergeSort (fun x y => decide (x ≤ y))).map encStr) ∧ Ext w w' := by
  obtain ⟨D0, hown, hmax, hperm⟩ := lmap_owns Tryz.underlying9 h hn
  have hbl := hown.lt
  refine (callsIn_wide (n := 5)).1 ?_
  have hseq : SeqGives Fence.wide 2 Tryz.prog 97 #[.pointer (some ⟨w.heap.size, 0, none⟩)] encStr (fun ss => ss.Perm (strKeys D0)) (Maps.size D0) (w.alloc (.cells #[.map (some b)] 79)) :=
    AnyZ.keys_gives (ρ := Tryz.keysA_ren) { Tryz.keysA with } Fence.wide _ trivial rfl (by omega) w.heap.size b 1000000 D0 _ (by simp) (by simp) (by
      obtain ⟨es, clock, hb, Ft, hs, hD⟩ := hown
      exact ⟨es, clock, (Below.heap_alloc _ _ b hbl).trans hb, Ft, hs, hD⟩)
  have cS := AnyZ.sorted_in Tryz.sortedA Fence.wide 5 trivial trivial trivial trivial rfl (by omega) (sortsA _) (enters_of Tryz.func96 (by kernel_rfl) rfl) 97 #[.pointer (some ⟨w.heap.size, 0, none⟩)] trivial (enters_of Tryz.func97 (by kernel_rfl) rfl) _ _ (by unfold maxLen; omega) (by omega) _ hseq
  refine cS.mono ?_
  rintro e w' ⟨v, ss, rfl, hS, hrow, hnil, hb⟩
  exact ⟨v, ss, rfl, hS.trans hperm, ownsRow_base_a hrow (by simp), ((Below.refl _ w).alloc (Nat.le_refl _) _).trans (hb.mono (by simp))⟩
end Go.Proofs.YtlalgaioiapjmaaGreatDoor
